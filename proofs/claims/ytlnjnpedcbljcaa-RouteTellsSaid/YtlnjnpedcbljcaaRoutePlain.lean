/- Plain facts on graphs: the levels of a breadth-first search are the least lengths of walks; so are the sums of Floyd and Warshall. No program in sight. -/
namespace Go.Proofs.Ytlnjnpedcbljcaa.RoutePlain

/-- A walk of so many meetings. -/
inductive Wk (m : Nat → Nat → Bool) (n : Nat) : Nat → Nat → Nat → Prop
  | nil (a : Nat) : a < n → Wk m n a a 0
  | snoc {a x y k : Nat} : Wk m n a x k → y < n → m x y = true → Wk m n a y (k + 1)

section
variable {m : Nat → Nat → Bool} {n : Nat}
theorem Wk.right {a b k : Nat} (h : Wk m n a b k) : b < n := by cases h <;> assumption
theorem Wk.left {a b k : Nat} (h : Wk m n a b k) : a < n := by
  induction h with
  | nil h => exact h
  | snoc _ _ _ ih => exact ih
theorem Wk.append {a b c p q : Nat} (h : Wk m n a b p) (g : Wk m n b c q) : Wk m n a c (p + q) := by
  induction g with
  | nil _ => exact h
  | snoc _ hy hm ih => exact .snoc ih hy hm
theorem Wk.one {a b : Nat} (ha : a < n) (hb : b < n) (h : m a b = true) : Wk m n a b 1 := .snoc (.nil a ha) hb h
theorem Wk.rev (hs : ∀ x y, m x y = m y x) {a b k : Nat} (h : Wk m n a b k) : Wk m n b a k := by
  induction h with
  | nil h => exact .nil a h
  | @snoc x y k hw hy hm ih =>
    have h1 := Wk.append (Wk.one hy hw.right (by rw [hs]; exact hm)) ih
    rwa [Nat.add_comm] at h1

/-- The least length. -/
def Dist (m : Nat → Nat → Bool) (n a b v : Nat) : Prop := Wk m n a b v ∧ ∀ k, Wk m n a b k → v ≤ k
theorem Dist.uniq {a b u v : Nat} (h : Dist m n a b u) (g : Dist m n a b v) : u = v := Nat.le_antisymm (h.2 _ g.1) (g.2 _ h.1)

/-! ### The search -/

/-- What the search has when it ends: by whom each is reached, and its level. -/
structure Tree (m : Nat → Nat → Bool) (n a : Nat) (B : Nat → Option Nat) (lev : Nat → Nat) : Prop where
  root : B a = some a
  lev0 : lev a = 0
  dom : ∀ x y, B x = some y → x < n ∧ y < n
  step : ∀ x y, B x = some y → x ≠ a → (B y).isSome ∧ m y x = true ∧ lev x = lev y + 1
  closed : ∀ p, (B p).isSome → ∀ x, x < n → m p x = true → (B x).isSome ∧ lev x ≤ lev p + 1
  small : ∀ x, (B x).isSome → lev x ≤ n

theorem Tree.walk {a : Nat} {B : Nat → Option Nat} {lev : Nat → Nat} (h : Tree m n a B lev) : ∀ (k x : Nat), lev x = k → (B x).isSome → Wk m n a x k := by
  intro k
  induction k with
  | zero =>
    intro x hl hx
    obtain ⟨y, hy⟩ := Option.isSome_iff_exists.1 hx
    by_cases e : x = a
    · subst e; exact .nil _ (h.dom _ _ hy).1
    · have := (h.step x y hy e).2.2; omega
  | succ k ih =>
    intro x hl hx
    obtain ⟨y, hy⟩ := Option.isSome_iff_exists.1 hx
    by_cases e : x = a
    · subst e; have := h.lev0; omega
    · obtain ⟨h1, h2, h3⟩ := h.step x y hy e
      exact .snoc (ih y (by omega) h1) (h.dom _ _ hy).1 h2
theorem Tree.least {a : Nat} {B : Nat → Option Nat} {lev : Nat → Nat} (h : Tree m n a B lev) {x k : Nat} (g : Wk m n a x k) : (B x).isSome ∧ lev x ≤ k := by
  induction g with
  | nil _ => exact ⟨by rw [h.root]; rfl, by rw [h.lev0]; exact Nat.le_refl _⟩
  | @snoc x y k _ hy hm ih =>
    obtain ⟨h1, h2⟩ := ih
    obtain ⟨h3, h4⟩ := h.closed x h1 y hy hm
    exact ⟨h3, by omega⟩
theorem Tree.dist {a x : Nat} {B : Nat → Option Nat} {lev : Nat → Nat} (h : Tree m n a B lev) (hx : (B x).isSome) : Dist m n a x (lev x) :=
  ⟨h.walk _ x rfl hx, fun _ g => (h.least g).2⟩

/-- How many are not reached yet. -/
def unseen (n : Nat) (B : Nat → Option Nat) : Nat := (List.range n).countP fun x => (B x).isNone
def upd {α : Type} (f : Nat → α) (b : Nat) (v : α) : Nat → α := fun x => if x = b then v else f x
theorem upd_same {α : Type} (f : Nat → α) (b : Nat) (v : α) : upd f b v b = v := if_pos rfl
theorem upd_other {α : Type} (f : Nat → α) {b x : Nat} (v : α) (h : x ≠ b) : upd f b v x = f x := if_neg h
theorem unseen_ge (n b : Nat) (B : Nat → Option Nat) (p : Nat) (hb : n ≤ b) : unseen n (upd B b (some p)) = unseen n B := by
  unfold unseen
  refine List.countP_congr fun x hx => ?_
  have : x < n := List.mem_range.1 hx
  rw [upd_other _ _ (by omega)]
theorem unseen_upd (n b : Nat) (B : Nat → Option Nat) (p : Nat) (hb : b < n) (h : B b = none) : unseen n (upd B b (some p)) + 1 = unseen n B := by
  induction n with
  | zero => omega
  | succ n ih =>
    unfold unseen at *
    rw [List.range_succ, List.countP_append, List.countP_append]
    by_cases e : b = n
    · subst e
      have := unseen_ge b b B p (Nat.le_refl _)
      unfold unseen at this
      rw [this]
      simp [upd_same, h]
    · have hi := ih (by omega)
      have : upd B b (some p) n = B n := upd_other _ _ (by omega)
      simp only [List.countP_cons, List.countP_nil, this]
      omega
theorem unseen_start (n a : Nat) (ha : a < n) : unseen n (upd (fun _ => none) a (some a)) + 1 = n := by
  rw [unseen_upd n a _ a ha rfl]
  unfold unseen
  rw [List.countP_eq_length.2 (by simp)]
  exact List.length_range

/-- While it goes on: 'q' wait; 'c' were taken; of the one that is looked at, 'p', those below 'b' were. -/
structure Search (m : Nat → Nat → Bool) (n a : Nat) (B : Nat → Option Nat) (lev : Nat → Nat) (q : List Nat) (c L : Nat) (now : Option (Nat × Nat)) : Prop where
  root : B a = some a
  lev0 : lev a = 0
  dom : ∀ x y, B x = some y → x < n ∧ y < n
  step : ∀ x y, B x = some y → x ≠ a → (B y).isSome ∧ m y x = true ∧ lev x = lev y + 1
  inq : ∀ x, x ∈ q → (B x).isSome
  sorted : q.Pairwise fun x y => lev x ≤ lev y
  span : ∀ x, x ∈ q → L ≤ lev x ∧ lev x ≤ L + 1
  past : ∀ x, (B x).isSome → x ∉ q → lev x ≤ L
  done : ∀ p, (B p).isSome → p ∉ q → (∀ b, now ≠ some (p, b)) → ∀ x, x < n → m p x = true → (B x).isSome ∧ lev x ≤ lev p + 1
  here : ∀ p b, now = some (p, b) → lev p = L ∧ (B p).isSome ∧ lev p + 1 ≤ c ∧ (∀ x, x < b → x < n → m p x = true → (B x).isSome ∧ lev x ≤ lev p + 1)
  count : unseen n B + q.length + c = n
  low : ∀ x, (B x).isSome → lev x ≤ c

theorem Search.start {a : Nat} (ha : a < n) : Search m n a (upd (fun _ => none) a (some a)) (fun _ => 0) [a] 0 0 none := by
  have only : ∀ x y, upd (fun _ => none) a (some a) x = some y → x = a ∧ y = a := by
    intro x y h
    unfold upd at h
    by_cases e : x = a
    · rw [if_pos e] at h; injection h with h; exact ⟨e, h.symm⟩
    · rw [if_neg e] at h; cases h
  have only' : ∀ x, (upd (fun _ => none) a (some a) x).isSome → x = a := fun x h => by
    obtain ⟨y, hy⟩ := Option.isSome_iff_exists.1 h
    exact (only x y hy).1
  refine ⟨upd_same _ _ _, rfl, fun x y h => ?_, fun x y h hne => absurd (only x y h).1 hne, fun x h => ?_, by simp, fun x _ => ⟨Nat.le_refl _, Nat.zero_le _⟩, fun x _ _ => Nat.le_refl _, fun p hp hq => ?_, fun p b h => (by cases h), ?_, fun x _ => Nat.le_refl _⟩
  · obtain ⟨rfl, rfl⟩ := only x y h; exact ⟨ha, ha⟩
  · rw [List.mem_singleton.1 h, upd_same]; rfl
  · exact absurd (List.mem_singleton.2 (only' p hp)) hq
  · have := unseen_start n a ha
    simp only [List.length_singleton]; omega

theorem Search.pop {a p c L : Nat} {B : Nat → Option Nat} {lev : Nat → Nat} {q : List Nat} (h : Search m n a B lev (p :: q) c L none) : Search m n a B lev q (c + 1) (lev p) (some (p, 0)) := by
  have hs := List.pairwise_cons.1 h.sorted
  have hp := h.span p List.mem_cons_self
  refine ⟨h.root, h.lev0, h.dom, h.step, fun x hx => h.inq x (List.mem_cons_of_mem _ hx), hs.2, fun x hx => ?_, fun x hx hq => ?_, fun r hr hq hn => ?_, fun r b e => ?_, ?_, fun x hx => Nat.le_succ_of_le (h.low x hx)⟩
  · have := h.span x (List.mem_cons_of_mem _ hx); have := hs.1 x hx; omega
  · by_cases e : x = p
    · rw [e]; exact Nat.le_refl _
    · have := h.past x hx (by simp [e, hq]); omega
  · by_cases e : r = p
    · subst e; exact absurd rfl (hn 0)
    · exact h.done r hr (by simp [e, hq]) (fun b hb => by cases hb)
  · injection e with e; injection e with e1 e2; subst e1; subst e2
    exact ⟨rfl, h.inq _ List.mem_cons_self, Nat.succ_le_succ (h.low _ (h.inq _ List.mem_cons_self)), fun x hx => absurd hx (Nat.not_lt_zero _)⟩
  · have := h.count; simp only [List.length_cons] at this; omega

/-- One who was reached already, or isn't met. -/
theorem Search.pass {a p b c L : Nat} {B : Nat → Option Nat} {lev : Nat → Nat} {q : List Nat} (h : Search m n a B lev q c L (some (p, b))) (hb : (B b).isSome ∨ m p b = false) :
    Search m n a B lev q c L (some (p, b + 1)) := by
  obtain ⟨h1, h2, h4, h3⟩ := h.here p b rfl
  refine ⟨h.root, h.lev0, h.dom, h.step, h.inq, h.sorted, h.span, h.past, fun r hr hq hn => ?_, fun r b' e => ?_, h.count, h.low⟩
  · refine h.done r hr hq (fun b' hb' => ?_)
    injection hb' with hb'; injection hb' with e1 e2
    subst e1
    exact hn (b + 1) rfl
  · injection e with e; injection e with e1 e2; subst e1; subst e2
    refine ⟨h1, h2, h4, fun x hx hxn hm => ?_⟩
    by_cases e : x = b
    · subst e
      rcases hb with hb | hb
      · refine ⟨hb, ?_⟩
        by_cases hq : x ∈ q
        · have := h.span x hq; omega
        · have := h.past x hb hq; omega
      · rw [hb] at hm; cases hm
    · exact h3 x (by omega) hxn hm
/-- One who is reached now. -/
theorem Search.found {a p b c L : Nat} {B : Nat → Option Nat} {lev : Nat → Nat} {q : List Nat} (h : Search m n a B lev q c L (some (p, b))) (hb : B b = none) (hm : m p b = true) (hbn : b < n) :
    Search m n a (upd B b (some p)) (upd lev b (lev p + 1)) (q ++ [b]) c L (some (p, b + 1)) := by
  obtain ⟨h1, h2, h4, h3⟩ := h.here p b rfl
  have hne : ∀ x, (B x).isSome → x ≠ b := fun x hx e => by subst e; rw [hb] at hx; cases hx
  have hup : ∀ x, (B x).isSome → upd B b (some p) x = B x := fun x hx => upd_other _ _ (hne x hx)
  have hul : ∀ x, (B x).isSome → upd lev b (lev p + 1) x = lev x := fun x hx => upd_other _ _ (hne x hx)
  have back : ∀ x, (upd B b (some p) x).isSome → x = b ∨ (B x).isSome := fun x hx => by
    by_cases e : x = b
    · exact .inl e
    · rw [upd_other _ _ e] at hx; exact .inr hx
  have hqs : ∀ x, x ∈ q → upd lev b (lev p + 1) x = lev x := fun x hx => hul x (h.inq x hx)
  obtain ⟨yp, hyp⟩ := Option.isSome_iff_exists.1 h2
  have hpn := (h.dom p yp hyp).1
  have hab : a ≠ b := hne a (by rw [h.root]; rfl)
  refine ⟨by rw [upd_other _ _ hab]; exact h.root, by rw [upd_other _ _ hab]; exact h.lev0, fun x y hxy => ?_, fun x y hxy hxa => ?_, fun x hx => ?_, ?_, fun x hx => ?_, fun x hx hq => ?_, fun r hr hq hn x hx hmr => ?_, fun r b' e => ?_, ?_, fun x hx => ?_⟩
  · by_cases e : x = b
    · subst e; rw [upd_same] at hxy; injection hxy with hxy; subst hxy; exact ⟨hbn, hpn⟩
    · rw [upd_other _ _ e] at hxy; exact h.dom x y hxy
  · by_cases e : x = b
    · subst e; rw [upd_same] at hxy; injection hxy with hxy; subst hxy
      exact ⟨by rw [hup _ h2]; exact h2, hm, by rw [upd_same, hul _ h2]⟩
    · rw [upd_other _ _ e] at hxy
      obtain ⟨g1, g2, g3⟩ := h.step x y hxy hxa
      exact ⟨by rw [hup _ g1]; exact g1, g2, by rw [upd_other _ _ e, hul _ g1]; exact g3⟩
  · rcases List.mem_append.1 hx with hx | hx
    · rw [hup _ (h.inq x hx)]; exact h.inq x hx
    · rw [List.mem_singleton.1 hx, upd_same]; rfl
  · rw [List.pairwise_append]
    refine ⟨h.sorted.imp_of_mem (fun {x y} hx hy hxy => by rw [hqs x hx, hqs y hy]; exact hxy), by simp, fun x hx y hy => ?_⟩
    rw [List.mem_singleton.1 hy, upd_same, hqs x hx]
    have := h.span x hx; omega
  · rcases List.mem_append.1 hx with hx | hx
    · rw [hqs x hx]; exact h.span x hx
    · rw [List.mem_singleton.1 hx, upd_same]; omega
  · rcases back x hx with e | e
    · subst e; exact absurd (List.mem_append.2 (.inr (List.mem_singleton.2 rfl))) hq
    · rw [hul x e]; exact h.past x e (fun hh => hq (List.mem_append.2 (.inl hh)))
  · have hrb : r ≠ b := fun e => hq (List.mem_append.2 (.inr (List.mem_singleton.2 e)))
    have hr' : (B r).isSome := (back r hr).resolve_left hrb
    obtain ⟨g1, g2⟩ := h.done r hr' (fun hh => hq (List.mem_append.2 (.inl hh))) (fun b' hb' => by
      injection hb' with hb'; injection hb' with e1 e2; subst e1; exact hn (b + 1) rfl) x hx hmr
    exact ⟨by rw [hup _ g1]; exact g1, by rw [hul _ g1, hul _ hr']; exact g2⟩
  · injection e with e; injection e with e1 e2; subst e1; subst e2
    refine ⟨by rw [hul _ h2]; exact h1, by rw [hup _ h2]; exact h2, by rw [hul _ h2]; exact h4, fun x hx hxn hmx => ?_⟩
    by_cases e : x = b
    · subst e; rw [upd_same, upd_same, hul _ h2]; exact ⟨rfl, Nat.le_refl _⟩
    · obtain ⟨g1, g2⟩ := h3 x (by omega) hxn hmx
      exact ⟨by rw [hup _ g1]; exact g1, by rw [hul _ g1, hul _ h2]; exact g2⟩
  · have := h.count; have := unseen_upd n b B p hbn hb
    rw [List.length_append, List.length_singleton]; omega
  · rcases back x hx with e | e
    · subst e; rw [upd_same]; exact h4
    · rw [hul x e]; exact h.low x e
theorem Search.next {a p b c L : Nat} {B : Nat → Option Nat} {lev : Nat → Nat} {q : List Nat} (h : Search m n a B lev q c L (some (p, b))) (hb : n ≤ b) : Search m n a B lev q c L none := by
  obtain ⟨h1, h2, h4, h3⟩ := h.here p b rfl
  refine ⟨h.root, h.lev0, h.dom, h.step, h.inq, h.sorted, h.span, h.past, fun r hr hq _ x hx hm => ?_, fun r b' e => (by cases e), h.count, h.low⟩
  by_cases e : r = p
  · subst e; exact h3 x (by omega) hx hm
  · exact h.done r hr hq (fun b' hb' => by injection hb' with hb'; injection hb' with e1 e2; exact e e1.symm) x hx hm
theorem Search.over {a c L : Nat} {B : Nat → Option Nat} {lev : Nat → Nat} (h : Search m n a B lev [] c L none) : Tree m n a B lev :=
  ⟨h.root, h.lev0, h.dom, h.step, fun p hp => h.done p hp (by simp) (fun b hb => by cases hb), fun x hx => by have := h.low x hx; have := h.count; omega⟩

/-! ### The sums -/
/-- A walk whose inner ones are below T. -/
inductive Via (m : Nat → Nat → Bool) (n T : Nat) : Nat → Nat → Nat → Prop
  | nil (a : Nat) : Via m n T a a 0
  | one {a b : Nat} : m a b = true → Via m n T a b 1
  | cons {a x b k : Nat} : Via m n T a x k → x < T → m x b = true → Via m n T a b (k + 1)

theorem Via.split {T a b k : Nat} (h : Via m n (T + 1) a b k) : Via m n T a b k ∨ ∃ p q, Via m n T a T p ∧ Via m n T T b q ∧ p + q ≤ k := by
  induction h with
  | nil => exact .inl (.nil _)
  | one h => exact .inl (.one h)
  | @cons x b k _ hx hm ih =>
    by_cases e : x = T
    · subst e
      rcases ih with ih | ⟨p, q, h1, _, h3⟩
      · exact .inr ⟨k, 1, ih, .one hm, Nat.le_refl _⟩
      · exact .inr ⟨p, 1, h1, .one hm, by omega⟩
    · rcases ih with ih | ⟨p, q, h1, h2, h3⟩
      · exact .inl (.cons ih (by omega) hm)
      · exact .inr ⟨p, q + 1, h1, .cons h2 (by omega) hm, by omega⟩
theorem Wk.via {a b k : Nat} (h : Wk m n a b k) : Via m n n a b k := by
  induction h with
  | nil => exact .nil _
  | snoc hw _ hm ih => exact .cons ih hw.right hm

def fw0 (m : Nat → Nat → Bool) (i k : Nat) : Nat := if i = k then 0 else if m i k then 1 else 99
def fwS (t : Nat) (d : Nat → Nat → Nat) (i k : Nat) : Nat := min (d i k) (d i t + d t k)
def fw (m : Nat → Nat → Bool) : Nat → Nat → Nat → Nat
  | 0 => fw0 m
  | t + 1 => fwS t (fw m t)
theorem fw_diag (t i : Nat) : fw m t i i = 0 := by
  induction t with
  | zero => simp [fw, fw0]
  | succ t ih => simp [fw, fwS, ih]
theorem fw_top (t i k : Nat) : fw m t i k ≤ 99 := by
  induction t with
  | zero => unfold fw fw0; split <;> (try split) <;> omega
  | succ t ih => unfold fw fwS; omega
theorem fw_row (t k : Nat) : fw m (t + 1) t k = fw m t t k := by simp [fw, fwS, fw_diag]
theorem fw_col (t i : Nat) : fw m (t + 1) i t = fw m t i t := by simp [fw, fwS, fw_diag]
theorem fw_le {T a b k : Nat} (h : Via m n T a b k) : fw m T a b ≤ k := by
  induction T generalizing a b k with
  | zero =>
    cases h with
    | nil => simp [fw, fw0]
    | one hm => unfold fw fw0; split <;> simp_all
    | cons _ hx _ => omega
  | succ T ih =>
    unfold fw fwS
    rcases h.split with h | ⟨p, q, h1, h2, h3⟩
    · have := ih h; omega
    · have := ih h1; have := ih h2; omega
theorem fw_walk {T a b : Nat} (hT : T ≤ n) (ha : a < n) (hb : b < n) (h : fw m T a b < 99) : Wk m n a b (fw m T a b) := by
  induction T generalizing a b with
  | zero =>
    unfold fw fw0 at h ⊢
    by_cases e : a = b
    · subst e; rw [if_pos rfl]; exact .nil _ ha
    · rw [if_neg e] at h ⊢
      cases hm : m a b
      · rw [hm] at h; simp at h
      · exact .one ha hb hm
  | succ T ih =>
    have e : fw m (T + 1) a b = min (fw m T a b) (fw m T a T + fw m T T b) := rfl
    rw [e] at h ⊢
    by_cases g : fw m T a b ≤ fw m T a T + fw m T T b
    · rw [Nat.min_eq_left g] at h ⊢; exact ih (by omega) ha hb h
    · rw [Nat.min_eq_right (by omega)] at h ⊢
      exact (ih (by omega) ha (by omega) (by omega)).append (ih (by omega) (by omega) hb (by omega))
theorem fw_dist {a b v : Nat} (h : Dist m n a b v) (hv : v < 99) : fw m n a b = v := by
  have h1 := fw_le h.1.via
  have h2 := h.2 _ (fw_walk (Nat.le_refl _) h.1.left h.1.right (by omega))
  omega
theorem fw_none {a b : Nat} (ha : a < n) (hb : b < n) (h : ∀ k, ¬ Wk m n a b k) : fw m n a b = 99 := by
  have h1 := fw_top (m := m) n a b
  by_cases g : fw m n a b < 99
  · exact absurd (fw_walk (Nat.le_refl _) ha hb g) (h _)
  · omega

/-- How far: below 0: there is no way. -/
def far (m : Nat → Nat → Bool) (n a b : Nat) : Int := if fw m n a b < 99 then (fw m n a b : Int) else -1
theorem far_tree {a b : Nat} {B : Nat → Option Nat} {lev : Nat → Nat} (h : Tree m n a B lev) (hn : n < 99) (hb : b < n) : far m n a b = if (B b).isSome then (lev b : Int) else -1 := by
  have ha := (h.dom _ _ h.root).1
  unfold far
  by_cases hs : (B b).isSome
  · have hl := h.small b hs
    rw [fw_dist (h.dist hs) (by omega), if_pos (by omega), if_pos hs]
  · rw [fw_none ha hb (fun k g => hs (h.least g).1), if_neg (by omega), if_neg hs]
theorem far_self {a : Nat} : far m n a a = 0 := by unfold far; rw [fw_diag]; rfl
theorem far_walk {a b : Nat} (ha : a < n) (hb : b < n) (h : 0 ≤ far m n a b) : ∃ k, Wk m n a b k := by
  unfold far at h
  by_cases g : fw m n a b < 99
  · exact ⟨_, fw_walk (Nat.le_refl _) ha hb g⟩
  · rw [if_neg g] at h; omega
end
end Go.Proofs.Ytlnjnpedcbljcaa.RoutePlain
