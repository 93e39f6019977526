/- Lines: cut at blanks and joined; numbers and texts read back. -/
import Derived.Test.YtmhhnmbedlhflaaDoorPlain
import Derived.Lib.SplitLaws
namespace Go.Proofs.YtmhhnmbedlhflaaDoor
/-- s, cut at each c. -/
def cutAt (c : UInt8) : Bs → List Bs
  | [] => [[]]
  | b :: l => if b = c then [] :: cutAt c l else match cutAt c l with
    | [] => [[b]]
    | h :: t => (b :: h) :: t
theorem cutAt_ne (c : UInt8) (s : Bs) : cutAt c s ≠ [] := by
  cases s with
  | nil => simp [cutAt]
  | cons b l =>
    unfold cutAt
    split
    · simp
    · split <;> simp
theorem splitK_cut (c : UInt8) (s : Bs) : Lib.splitK [c] 0 (Lib.count s [c]) s = cutAt c s := by
  induction s with
  | nil => rw [Lib.count_one]; rfl
  | cons b l ih =>
    by_cases h : b = c
    · subst h
      rw [Lib.count_cons_eq, Nat.add_comm, Lib.splitK]
      have hix : Lib.index (b :: l) [b] = 0 := by rw [Lib.index]; simp [List.isPrefixOf]
      rw [hix, if_neg (by decide), cutAt, if_pos rfl, ← ih]
      rfl
    · rw [Lib.count_cons_ne b c l h, cutAt, if_neg h, ← ih]
      have hp : ([c] : List UInt8).isPrefixOf (b :: l) = false := by simp [List.isPrefixOf, Ne.symm h]
      have hix : Lib.index (b :: l) [c] = if Lib.index l [c] == -1 then -1 else Lib.index l [c] + 1 := by rw [Lib.index, hp]; simp
      have hge := Lib.index_ge l [c]
      cases hk : Lib.count l [c] with
      | zero => rfl
      | succ k =>
        have hn : ¬ Lib.index l [c] = -1 := fun e => by rw [Lib.count_miss e] at hk; cases hk
        obtain ⟨j, hj⟩ : ∃ j : Nat, Lib.index l [c] = j := ⟨(Lib.index l [c]).toNat, by omega⟩
        have hx' : Lib.index (b :: l) [c] = ((j + 1 : Nat) : Int) := by rw [hix, if_neg (fun e => hn (beq_iff_eq.1 e)), hj]; omega
        rw [Lib.splitK, Lib.splitK, hx', hj, if_neg (fun e => by have := beq_iff_eq.1 e; omega), if_neg (fun e => by have := beq_iff_eq.1 e; omega)]
        simp
theorem join_two (c : UInt8) (x y : Bs) (r : List Bs) : Lib.join (x :: y :: r) [c] = x ++ c :: Lib.join (y :: r) [c] := by
  rw [Lib.join_cons, Lib.join_cons]
  simp [Lib.joinTail]
theorem join_push (c b : UInt8) (h : Bs) (t : List Bs) : Lib.join ((b :: h) :: t) [c] = b :: Lib.join (h :: t) [c] := by
  rw [Lib.join_cons, Lib.join_cons]; rfl
theorem join_cut (c : UInt8) (s : Bs) : Lib.join (cutAt c s) [c] = s := by
  induction s with
  | nil => simp [cutAt, Lib.join_one]
  | cons b l ih =>
    rw [cutAt]
    cases hc : cutAt c l with
    | nil => exact absurd hc (cutAt_ne c l)
    | cons h t =>
      rw [hc] at ih
      split
      · rename_i e
        rw [join_two, ih, e]; rfl
      · rw [join_push, ih]
theorem cut_join (c : UInt8) (x : Bs) (r : List Bs) (h : ∀ y ∈ x :: r, c ∉ y) : cutAt c (Lib.join (x :: r) [c]) = x :: r := by
  induction r generalizing x with
  | nil =>
    rw [Lib.join_one]
    have hx := h x (by simp)
    clear h
    induction x with
    | nil => rfl
    | cons b l ih =>
      rw [cutAt, if_neg (fun e => hx (by simp [e])), ih (fun e => hx (by simp [e]))]
  | cons y r ih =>
    rw [join_two]
    have hx := h x (by simp)
    have ih' := ih y (fun z hz => h z (by simp at hz ⊢; right; exact hz))
    clear ih h
    induction x with
    | nil => rw [List.nil_append, cutAt, if_pos rfl, ih']
    | cons b l ih =>
      rw [List.cons_append, cutAt, if_neg (fun e => hx (by simp [e])), ih (fun e => hx (by simp [e]))]

/- numbers -/
def numGo : Nat → Bs → Option Nat
  | v, [] => some v
  | v, c :: r => if c.toNat < 48 ∨ 57 < c.toNat then none else if v * 10 + (c.toNat - 48) ≥ 2147483648 then none else numGo (v * 10 + (c.toNat - 48)) r
def numB (s : Bs) : Option Nat := match s with
  | [] => none
  | c :: r => if c.toNat = 48 ∧ r ≠ [] then none else numGo 0 (c :: r)
theorem dg_of {c : UInt8} (h : ¬ (c.toNat < 48 ∨ 57 < c.toNat)) : dg (c.toNat - 48) = c := by
  apply UInt8.toNat_inj.1
  unfold dg
  rw [UInt8.toNat_ofNat']
  omega
theorem toNat_dg {d : Nat} (h : d < 10) : (dg d).toNat = 48 + d := by
  unfold dg
  rw [UInt8.toNat_ofNat']
  omega
theorem numGo_pos (s : Bs) : ∀ v n, 0 < v → v < 2147483648 → numGo v s = some n → digs n = digs v ++ s ∧ n < 2147483648 := by
  induction s with
  | nil => intro v n _ hv h; simp [numGo] at h; subst h; simp [hv]
  | cons c r ih =>
    intro v n hv _ h
    rw [numGo] at h
    split at h
    · cases h
    · rename_i hc
      split at h
      · cases h
      · rename_i hlt
        have := ih _ n (by omega) (by omega) h
        refine ⟨?_, this.2⟩
        rw [this.1, digs_big (by omega)]
        have e1 : (v * 10 + (c.toNat - 48)) / 10 = v := by omega
        have e2 : (v * 10 + (c.toNat - 48)) % 10 = c.toNat - 48 := by omega
        rw [e1, e2, dg_of hc, List.append_assoc]; rfl
theorem numB_some {s : Bs} {n : Nat} (h : numB s = some n) : s = digs n ∧ n < 2147483648 := by
  cases s with
  | nil => cases h
  | cons c r =>
    unfold numB at h
    simp only at h
    split at h
    · cases h
    · rename_i h0
      rw [numGo] at h
      split at h
      · cases h
      · rename_i hc
        rw [if_neg (by omega), Nat.zero_mul, Nat.zero_add] at h
        by_cases hz : c.toNat = 48
        · have hr : r = [] := by
            cases r with
            | nil => rfl
            | cons _ _ => exact absurd ⟨hz, by simp⟩ h0
          subst hr
          simp only [numGo] at h
          have : n = c.toNat - 48 := by simpa using h.symm
          subst this
          rw [digs_small (by omega), dg_of hc]
          exact ⟨rfl, by omega⟩
        · have := numGo_pos r _ n (by omega) (by omega) h
          rw [digs_small (n := c.toNat - 48) (by omega), dg_of hc] at this
          exact ⟨this.1.symm, this.2⟩
theorem numGo_append (n : Nat) (hn : n < 2147483648) (r : Bs) : numGo 0 (digs n ++ r) = numGo n r := by
  induction n using Nat.strongRecOn generalizing r with
  | ind n ih =>
    by_cases h : n < 10
    · rw [digs_small h, List.singleton_append, numGo, toNat_dg h, if_neg (by omega), if_neg (by omega)]
      congr 1; omega
    · rw [digs_big h, List.append_assoc, List.singleton_append, ih (n / 10) (by omega) (by omega), numGo, toNat_dg (by omega), if_neg (by omega), if_neg (by omega)]
      congr 1; omega
theorem digs_head (n : Nat) (h : 0 < n) : ∃ d r, digs n = dg d :: r ∧ 0 < d ∧ d < 10 := by
  induction n using Nat.strongRecOn with
  | ind n ih =>
    by_cases h10 : n < 10
    · exact ⟨n, [], digs_small h10, h, h10⟩
    · obtain ⟨d, r, e, h1, h2⟩ := ih (n / 10) (by omega) (by omega)
      exact ⟨d, r ++ [dg (n % 10)], by rw [digs_big h10, e]; rfl, h1, h2⟩
theorem numB_digs (n : Nat) (hn : n < 2147483648) : numB (digs n) = some n := by
  have hg := numGo_append n hn []
  rw [List.append_nil, numGo] at hg
  by_cases h : n < 10
  · rw [digs_small h] at hg ⊢
    unfold numB
    simp only
    rw [if_neg (by simp), hg]
  · obtain ⟨d, r, e, h1, h2⟩ := digs_head n (by omega)
    rw [e] at hg ⊢
    unfold numB
    simp only
    rw [if_neg (by rw [toNat_dg h2]; omega), hg]
theorem digs_no (c : UInt8) (hc : c.toNat < 48 ∨ 57 < c.toNat) (n : Nat) : c ∉ digs n := by
  induction n using Nat.strongRecOn with
  | ind n ih =>
    have one : ∀ d, d < 10 → c ≠ dg d := fun d hd e => by
      have := toNat_dg hd
      rw [← e] at this
      omega
    by_cases h : n < 10
    · rw [digs_small h]; simp; exact one n h
    · rw [digs_big h]
      simp
      exact ⟨ih _ (by omega), one _ (by omega)⟩

/- texts -/
def unhex (c : UInt8) : Option Nat := if 48 ≤ c.toNat ∧ c.toNat ≤ 57 then some (c.toNat - 48) else if 97 ≤ c.toNat ∧ c.toNat ≤ 102 then some (c.toNat - 87) else none
def unhexB : Bs → Option Bs
  | [] => some []
  | [_] => none
  | h :: l :: r => match unhex h, unhex l, unhexB r with
    | some a, some b, some x => some (UInt8.ofNat (a * 16 + b) :: x)
    | _, _, _ => none
def txtB (s : Bs) : Option Bs := if s = [45] then some [] else if s = [] then none else unhexB s
theorem toNat_hx {d : Nat} (h : d < 16) : (hx d).toNat = if d < 10 then 48 + d else 87 + d := by
  unfold hx
  split <;> rw [UInt8.toNat_ofNat'] <;> omega
theorem unhex_hx {d : Nat} (h : d < 16) : unhex (hx d) = some d := by
  unfold unhex
  rw [toNat_hx h]
  by_cases h0 : d < 10
  · rw [if_pos h0, if_pos (by omega)]; simp
  · rw [if_neg h0, if_neg (by omega), if_pos (by omega)]; simp
theorem hx_unhex {c : UInt8} {d : Nat} (h : unhex c = some d) : c = hx d ∧ d < 16 := by
  have hb : d < 16 := by
    unfold unhex at h
    split at h
    · injection h; omega
    · split at h
      · injection h; omega
      · cases h
  refine ⟨?_, hb⟩
  apply UInt8.toNat_inj.1
  rw [toNat_hx hb]
  unfold unhex at h
  split at h
  · injection h; rw [if_pos (by omega)]; omega
  · split at h
    · injection h; rw [if_neg (by omega)]; omega
    · cases h
theorem unhexB_hexB (a : Bs) : unhexB (hexB a) = some a := by
  induction a with
  | nil => rfl
  | cons x r ih =>
    have := x.toNat_lt
    rw [hexB, unhexB, unhex_hx (by omega), unhex_hx (by omega), ih]
    simp only
    congr 2
    apply UInt8.toNat_inj.1
    rw [UInt8.toNat_ofNat']
    omega
theorem hexB_unhexB : ∀ (s a : Bs), unhexB s = some a → s = hexB a
  | [], a, h => by simp [unhexB] at h; subst h; rfl
  | [_], a, h => by simp [unhexB] at h
  | x :: y :: r, a, h => by
    rw [unhexB] at h
    split at h
    · rename_i p q z hp hq hz
      injection h with h
      subst h
      obtain ⟨rfl, h1⟩ := hx_unhex hp
      obtain ⟨rfl, h2⟩ := hx_unhex hq
      rw [hexB, ← hexB_unhexB r z hz, UInt8.toNat_ofNat']
      have e1 : (p * 16 + q) % 2 ^ 8 / 16 = p := by omega
      have e2 : (p * 16 + q) % 2 ^ 8 % 16 = q := by omega
      rw [e1, e2]
    · cases h
theorem txtB_hexT (a : Bs) : txtB (hexT a) = some a := by
  unfold hexT
  split
  · rename_i h; subst h; rfl
  · rename_i h
    cases a with
    | nil => exact absurd rfl h
    | cons x r =>
      unfold txtB
      rw [if_neg (by simp [hexB]), if_neg (by simp [hexB]), unhexB_hexB]
theorem hexT_txtB {s a : Bs} (h : txtB s = some a) : s = hexT a := by
  unfold txtB at h
  split at h
  · injection h with h; subst h; rename_i e; rw [e]; rfl
  · split at h
    · cases h
    · rename_i h0
      have := hexB_unhexB s a h
      unfold hexT
      rw [if_neg (fun e => h0 (by rw [this, e]; rfl))]
      exact this
theorem hexB_no (c : UInt8) (hc : c.toNat < 48) (a : Bs) : c ∉ hexB a := by
  induction a with
  | nil => simp [hexB]
  | cons x r ih =>
    have hxl := x.toNat_lt
    have one : ∀ d, d < 16 → c ≠ hx d := fun d hd e => by
      have := toNat_hx hd
      rw [← e] at this
      split at this <;> omega
    rw [hexB]
    simp only [List.mem_cons, not_or]
    exact ⟨one _ (by omega), one _ (by omega), ih⟩
theorem hexT_no (a : Bs) : (32 : UInt8) ∉ hexT a := by
  unfold hexT
  split
  · decide
  · exact hexB_no 32 (by decide) a
end Go.Proofs.YtmhhnmbedlhflaaDoor
