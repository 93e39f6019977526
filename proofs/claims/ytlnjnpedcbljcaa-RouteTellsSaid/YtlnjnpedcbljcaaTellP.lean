/- Plain facts for the statement: the search ends; lengths are the same both ways; the least ones; who is reached. -/
import Derived.Test.YtlnjnpedcbljcaaOne
namespace Go.Proofs.Ytlnjnpedcbljcaa
open RoutePlain

theorem inner_end {m : Nat → Nat → Bool} {n a p c L : Nat} : ∀ (d b : Nat) (B : Nat → Option Nat) (lev : Nat → Nat) (q : List Nat), n - b = d → Search m n a B lev q c L (some (p, b)) → ∃ B' lev' q', Search m n a B' lev' q' c L none
  | 0, b, B, lev, q, hd, h => ⟨B, lev, q, h.next (by omega)⟩
  | d + 1, b, B, lev, q, hd, h => by
    cases hB : B b with
    | some y => exact inner_end d (b + 1) B lev q (by omega) (h.pass (.inl (by rw [hB]; rfl)))
    | none =>
      cases hm : m p b with
      | false => exact inner_end d (b + 1) B lev q (by omega) (h.pass (.inr hm))
      | true => exact inner_end d (b + 1) _ _ _ (by omega) (h.found hB hm (by omega))
theorem outer_end {m : Nat → Nat → Bool} {n a : Nat} : ∀ (d c L : Nat) (B : Nat → Option Nat) (lev : Nat → Nat) (q : List Nat), n - c = d → Search m n a B lev q c L none → ∃ B' lev', Tree m n a B' lev'
  | 0, c, L, B, lev, q, hd, h => by
    cases q with
    | nil => exact ⟨B, lev, h.over⟩
    | cons p q => have := h.count; simp only [List.length_cons] at this; omega
  | d + 1, c, L, B, lev, q, hd, h => by
    cases q with
    | nil => exact ⟨B, lev, h.over⟩
    | cons p q =>
      obtain ⟨B', lev', q', h'⟩ := inner_end n 0 B lev q (by omega) h.pop
      exact outer_end d (c + 1) _ B' lev' q' (by omega) h'
theorem tree_is (m : Nat → Nat → Bool) {n a : Nat} (ha : a < n) : ∃ B lev, Tree m n a B lev := outer_end n 0 0 _ _ _ (by omega) (Search.start ha)
theorem far_iff {m : Nat → Nat → Bool} {n a b : Nat} (ha : a < n) (hb : b < n) (hn : n ≤ 16) : 0 ≤ far m n a b ↔ ∃ k, Wk m n a b k := by
  refine ⟨far_walk ha hb, fun ⟨k, hk⟩ => ?_⟩
  obtain ⟨B, lev, hT⟩ := tree_is m ha
  rw [far_tree hT (by omega) hb, if_pos (hT.least hk).1]
  omega
theorem fw_sym {m : Nat → Nat → Bool} (hs : ∀ x y, m x y = m y x) (t i k : Nat) : fw m t i k = fw m t k i := by
  induction t generalizing i k with
  | zero =>
    unfold fw fw0
    by_cases e : i = k
    · subst e; rfl
    · have e' : ¬ k = i := fun h => e h.symm
      rw [if_neg e, if_neg e', hs]
  | succ t ih =>
    show min (fw m t i k) (fw m t i t + fw m t t k) = min (fw m t k i) (fw m t k t + fw m t t i)
    rw [ih i k, ih i t, ih t k]
    omega
theorem far_sym {m : Nat → Nat → Bool} {n : Nat} (h : Meets n m) (a b : Nat) : far m n a b = far m n b a := by
  unfold far; rw [fw_sym h.sym n a b]
theorem far_one {m : Nat → Nat → Bool} {n a b : Nat} (h : Meets n m) (ha : a < n) (hb : b < n) : (far m n a b == 1) = m a b := by
  cases hm : m a b with
  | true =>
    have h1 := fw_le (Via.one (n := n) (T := n) hm)
    have h2 := fw_walk (m := m) (Nat.le_refl n) ha hb (by omega)
    have h0 : fw m n a b ≠ 0 := by
      intro e
      rw [e] at h2
      cases h2
      rw [h.self] at hm; cases hm
    unfold far
    rw [if_pos (by omega), show fw m n a b = 1 by omega]; rfl
  | false =>
    rw [beq_eq_false_iff_ne]
    intro e
    unfold far at e
    by_cases g : fw m n a b < 99
    · rw [if_pos g] at e
      have h2 := fw_walk (m := m) (Nat.le_refl n) ha hb g
      rw [show fw m n a b = 0 + 1 by omega] at h2
      cases h2 with
      | snoc h3 _ h4 =>
        cases h3
        rw [hm] at h4; cases h4
    · rw [if_neg g] at e; omega

def leastTo (m : Nat → Nat → Bool) (n a : Nat) : Nat → Nat
  | 0 => a
  | b + 1 => if 0 ≤ far m n a b then min (leastTo m n a b) b else leastTo m n a b
theorem leastTo_le (m : Nat → Nat → Bool) (n a b : Nat) : leastTo m n a b ≤ a := by
  induction b with
  | zero => exact Nat.le_refl _
  | succ b ih => unfold leastTo; split <;> omega
theorem leastTo_is {m : Nat → Nat → Bool} {n a p : Nat} (hm : Meets n m) (h : Least m n a p) (b : Nat) : leastTo m n a b = if p < b then p else a := by
  induction b with
  | zero => rfl
  | succ b ih =>
    unfold leastTo
    rw [ih]
    by_cases h1 : p < b
    · rw [if_pos h1, if_pos (by omega : p < b + 1)]
      split <;> omega
    · rw [if_neg h1]
      by_cases h2 : p = b
      · subst h2
        have := h.1
        rw [if_pos (by rw [far_sym hm]; exact h.2.1), if_pos (by omega)]; omega
      · rw [if_neg (by rw [far_sym hm]; have := h.2.2 b (by omega); omega), if_neg (by omega)]
theorem leastTo_all {m : Nat → Nat → Bool} {n a p : Nat} (hm : Meets n m) (h : Least m n a p) (ha : a < n) : leastTo m n a n = p := by
  rw [leastTo_is hm h n, if_pos (by have := h.1; omega)]

def allR (m : Nat → Nat → Bool) (n a b : Nat) : Bool := (List.range b).all fun y => decide (0 ≤ far m n a y)
def wholeTo (m : Nat → Nat → Bool) (n a : Nat) : Bool := (List.range a).all fun x => allR m n x n
theorem allR_succ (m : Nat → Nat → Bool) (n a b : Nat) : allR m n a (b + 1) = (allR m n a b && decide (0 ≤ far m n a b)) := by
  unfold allR; rw [List.range_succ, List.all_append]; simp
theorem wholeTo_succ (m : Nat → Nat → Bool) (n a : Nat) : wholeTo m n (a + 1) = (wholeTo m n a && allR m n a n) := by
  unfold wholeTo; rw [List.range_succ, List.all_append]; simp
theorem whole_is {m : Nat → Nat → Bool} {n : Nat} {ps : List Nat} (hm : Meets n m) (h : AllLeast m n ps) (hn : n ≤ 16) : (!(ps.any fun p => decide (0 < p))) = wholeTo m n n := by
  rw [Bool.eq_iff_iff]
  simp only [Bool.not_eq_true', List.any_eq_false, decide_eq_true_eq, wholeTo, allR, List.all_eq_true, List.mem_range]
  constructor
  · intro hz x hx y hy
    have reach : ∀ i, i < n → 0 ≤ far m n 0 i := fun i hi => by
      obtain ⟨p, hg⟩ : ∃ p, ps[i]? = some p := ⟨_, List.getElem?_eq_getElem (by rw [h.1]; exact hi)⟩
      have hl := h.2 i _ hg
      have h0 := hz p (List.mem_of_getElem? hg)
      have : p = 0 := by omega
      rw [this] at hl; exact hl.2.1
    have h0n : 0 < n := by omega
    obtain ⟨k1, w1⟩ := (far_iff h0n hx hn).1 (reach x hx)
    obtain ⟨k2, w2⟩ := (far_iff h0n hy hn).1 (reach y hy)
    exact (far_iff hx hy hn).2 ⟨_, (w1.rev hm.sym).append w2⟩
  · intro ha p hp
    obtain ⟨i, hi, rfl⟩ := List.mem_iff_getElem.1 hp
    have hl := h.2 i _ (List.getElem?_eq_getElem hi)
    have hin : i < n := by rw [← h.1]; exact hi
    rcases Nat.eq_zero_or_pos ps[i] with h0 | h0
    · omega
    · have := hl.2.2 0 h0
      have := ha 0 (by omega) i hin
      omega
theorem pairs_get (l : List (Nat × Nat)) : ∀ (k a b : Nat), l[k]? = some (a, b) → (pairs l)[k * 2]? = some (.int .i64 (a : Int)) ∧ (pairs l)[k * 2 + 1]? = some (.int .i64 (b : Int)) := by
  induction l with
  | nil => intro k a b h; simp at h
  | cons x l ih =>
    intro k a b h
    cases k with
    | zero =>
      simp only [List.getElem?_cons_zero, Option.some.injEq] at h
      subst h
      exact ⟨rfl, rfl⟩
    | succ k =>
      rw [List.getElem?_cons_succ] at h
      obtain ⟨h1, h2⟩ := ih k a b h
      have e : pairs (x :: l) = [.int .i64 (x.1 : Int), .int .i64 (x.2 : Int)] ++ pairs l := rfl
      rw [e]
      refine ⟨?_, ?_⟩
      · rw [List.getElem?_append_right (by simp; omega)]
        rw [show (k + 1) * 2 - [Value.int .i64 (x.1 : Int), .int .i64 (x.2 : Int)].length = k * 2 by simp; omega]; exact h1
      · rw [List.getElem?_append_right (by simp; omega)]
        rw [show (k + 1) * 2 + 1 - [Value.int .i64 (x.1 : Int), .int .i64 (x.2 : Int)].length = k * 2 + 1 by simp; omega]; exact h2
/-- What the next one of all pairs is. -/
theorem lks_next {m : Nat → Nat → Bool} {n a b : Nat} (ha : a < n) (hb : b < n) (hab : a < b) (hm : m a b = true) : (lks m n n)[(lks m n a ++ rowL m a b).length]? = some (a, b) := by
  have h1 : ∀ c, a < c → ∃ r, lks m n c = lks m n a ++ rowL m a n ++ r := by
    intro c
    induction c with
    | zero => intro h; omega
    | succ c ih =>
      intro h
      by_cases e : a = c
      · subst e; exact ⟨[], by rw [lks_succ]; simp⟩
      · obtain ⟨r, hr⟩ := ih (by omega)
        exact ⟨r ++ rowL m c n, by rw [lks_succ, hr]; simp⟩
  have h2 : ∀ c, b < c → ∃ r, rowL m a c = rowL m a b ++ [(a, b)] ++ r := by
    intro c
    induction c with
    | zero => intro h; omega
    | succ c ih =>
      intro h
      by_cases e : b = c
      · subst e; exact ⟨[], by rw [rowL_succ, if_pos ⟨hab, hm⟩]; simp⟩
      · obtain ⟨r, hr⟩ := ih (by omega)
        refine ⟨r ++ (if a < c ∧ m a c = true then [(a, c)] else []), ?_⟩
        rw [rowL_succ, hr]; simp
  obtain ⟨r1, e1⟩ := h1 n ha
  obtain ⟨r2, e2⟩ := h2 n hb
  rw [e1, e2]
  have : lks m n a ++ (rowL m a b ++ [(a, b)] ++ r2) ++ r1 = (lks m n a ++ rowL m a b) ++ ((a, b) :: (r2 ++ r1)) := by simp
  rw [this, List.getElem?_append_right (Nat.le_refl _), Nat.sub_self]; rfl
end Go.Proofs.Ytlnjnpedcbljcaa
