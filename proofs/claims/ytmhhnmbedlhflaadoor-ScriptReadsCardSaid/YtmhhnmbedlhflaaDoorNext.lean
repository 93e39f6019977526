/- The next word of a line; the next number. -/
import Derived.Test.YtmhhnmbedlhflaaDoorNumber
import Derived.Test.YtmhhnmbedlhflaaDoorStep
namespace Go.Proofs.YtmhhnmbedlhflaaDoor
open Go.RowKit

/-- A slice of words, the first one at cell off. -/
def Words (w : World) (g off cap : Nat) (ws : List Bs) : Prop :=
  ws.length ≤ cap ∧ ws.length ≤ 1000000 ∧ ∀ (j : Nat) x, ws[j]? = some x → w.cell? ⟨g, off + j, none⟩ = some (.string ⟨x.toArray⟩)
theorem Words.keep {F : Nat → Prop} {w w' : World} {g off cap : Nat} {ws : List Bs} (h : Words w g off cap ws) (k : Keep F w w') (hg : g < w.heap.size) (hf : ¬ F g) : Words w' g off cap ws :=
  ⟨h.1, h.2.1, fun j x hx => by rw [k.cell hg hf]; exact h.2.2 j x hx⟩
def nextW : List Bs → Bs
  | _ :: y :: _ => y
  | _ => []
def nextL : List Bs → List Bs
  | _ :: y :: r => y :: r
  | l => l
def nextF : List Bs → Bool → Bool
  | _ :: _ :: _, f => f
  | _, _ => false

theorem next_none (w : World) (L F : Nat) (V : Value) (x : Bs) (f : Bool) (A : Option Addr) (cap : Nat) (hV : V = .slice A 1 cap) (hL : Blk w L 47 #[V]) (hF : Blk w F 4 #[.bool f]) :
    Calls Tryd.prog 30 #[.pointer (some ⟨L, 0, none⟩), .pointer (some ⟨F, 0, none⟩)] w fun e w' => e = .returned (.string ⟨#[]⟩) ∧ w' = w.setCell ⟨F, 0, none⟩ (.bool false) := by
  subst hV
  have x1 := hL.cell 0
  have x2 := hF.cell 0
  have x3 := hF.frozen 0
  simp at x1 x2
  clear hL hF
  go_enter Tryd.func30, Tryd.ntmps30
  go_wp2_with fail
  go_ret
  exact ⟨rfl, rfl⟩
set_option maxRecDepth 100000 in
theorem next_some (w : World) (L F : Nat) (x y : Bs) (r : List Bs) (f : Bool) (g off cap : Nat) (hL : Blk w L 47 #[.slice (some ⟨g, off, none⟩) (r.length + 2) cap]) (hF : Blk w F 4 #[.bool f])
    (hW : Words w g off cap (x :: y :: r)) (hg : g ≠ L) :
    Calls Tryd.prog 30 #[.pointer (some ⟨L, 0, none⟩), .pointer (some ⟨F, 0, none⟩)] w fun e w' => e = .returned (.string ⟨y.toArray⟩) ∧ w' = w.setCell ⟨L, 0, none⟩ (.slice (some ⟨g, off + 1, none⟩) (r.length + 1) (cap - 1)) := by
  obtain ⟨h1, h2, h3⟩ := hW
  have x1 := hL.cell 0
  have x2 := hF.cell 0
  have x3 := hL.frozen 0
  have x4 := h3 1 y rfl
  simp at x1 x2 h1 h2
  have hsl : ∀ w, (Instr.sliceAt 47 (.slice (some ⟨g, off, none⟩) (r.length + 2) cap) (some (.int .i64 1)) none none).run Tryd.prog w = .ok (.slice (some ⟨g, off + 1, none⟩) (r.length + 1) (cap - 1)) w := fun w => by
    obtain ⟨ti, hi, hz0, hz1, hz2⟩ := info_parts (show (Tryd.prog.info? 9).map (fun i => (i.zero, i.size, i.bytes)) = some (some (.string ⟨#[]⟩), 1, 16) by kernel_rfl)
    have := run_from (P := Tryd.prog) 47 9 ti Tryd.underlying47 hi ⟨g, off, none⟩ (r.length + 2) cap 1 (by omega) .i64 w
    rw [if_neg (by omega), hz1] at this
    exact this
  have x5 : (w.setCell ⟨L, 0, none⟩ (.slice (some ⟨g, off + 1, none⟩) (r.length + 1) (cap - 1))).cell? ⟨g, off + 1, none⟩ = some (.string ⟨y.toArray⟩) := by
    rw [World.cell?_of_block (w := w) (Below.heap_setCell w _ _ g hg)]; exact x4
  have x6 := (hL.set_ 0 (.slice (some ⟨g, off + 1, none⟩) (r.length + 1) (cap - 1))).cell 0
  simp at x6
  have hr : (0 : Int) ≤ r.length := by omega
  have hr' : (r.length : Int) ≤ 1000000 := by omega
  clear hL hF h3
  go_enter Tryd.func30, Tryd.ntmps30
  go_wp2_with fail
  go_ret
  exact ⟨rfl, rfl⟩

/-- Where Parse's state lies: the words left, whether all is fine, the next word's closure, the act. -/
structure St (w : World) (L F C D : Nat) (ws : List Bs) (f : Bool) (A : Array Value) : Prop where
  lt : L < F ∧ F < C ∧ C < D
  l : ∃ g off cap, Blk w L 47 #[.slice (some ⟨g, off, none⟩) ws.length cap] ∧ Words w g off cap ws ∧ g < L ∧ 0 < ws.length
  f : Blk w F 4 #[.bool f]
  n : Blk w C 36 #[.func (.func 30) #[] #[.pointer (some ⟨L, 0, none⟩), .pointer (some ⟨F, 0, none⟩)]]
  a : Blk w D 24 A
def Two (L F : Nat) (b : Nat) : Prop := b = L ∨ b = F
theorem two_other {L F b : Nat} (h1 : b ≠ L) (h2 : b ≠ F) : ¬ Two L F b := fun h => h.elim h1 h2
section
variable {w w' : World} {L F C D : Nat} {ws : List Bs} {f : Bool} {A : Array Value}
theorem St.keep {G : Nat → Prop} (h : St w L F C D ws f A) (k : Keep G w w') (hG : ∀ b, b ≤ D → ¬ G b) : St w' L F C D ws f A := by
  obtain ⟨⟨l1, l2, l3⟩, ⟨g, off, cap, h1, h2, h3, h4⟩, hf, hn, ha⟩ := h
  exact ⟨⟨l1, l2, l3⟩, ⟨g, off, cap, k.blk h1 (hG _ (by omega)), h2.keep k (Nat.lt_trans h3 h1.lt) (hG _ (by omega)), h3, h4⟩, k.blk hf (hG _ (by omega)), k.blk hn (hG _ (by omega)), k.blk ha (hG _ (by omega))⟩
theorem St.below (h : St w L F C D ws f A) (k : Below w.heap.size w w') : St w' L F C D ws f A :=
  h.keep (Keep.of_below k (F := fun _ => False)) (fun _ _ h => h)
theorem St.drew (h : St w L F C D ws f A) : St w.drew L F C D ws f A := ⟨h.lt, h.l, h.f, h.n, h.a⟩
theorem St.drewN (h : St w L F C D ws f A) (n : Nat) : St (w.drewN n) L F C D ws f A := ⟨h.lt, h.l, h.f, h.n, h.a⟩
theorem St.setA (h : St w L F C D ws f A) (i : Nat) (u : Value) : St (w.setCell ⟨D, i, none⟩ u) L F C D ws f (A.setIfInBounds i u) := by
  obtain ⟨⟨l1, l2, l3⟩, ⟨g, off, cap, h1, h2, h3, h4⟩, hf, hn, ha⟩ := h
  exact ⟨⟨l1, l2, l3⟩, ⟨g, off, cap, h1.far (by show L ≠ D; omega) u, ⟨h2.1, h2.2.1, fun j x hx => by rw [World.cell?_of_block (w := w) (Below.heap_setCell w _ _ g (by show g ≠ D; omega))]; exact h2.2.2 j x hx⟩, h3, h4⟩,
    hf.far (by show F ≠ D; omega) u, hn.far (by show C ≠ D; omega) u, ha.set_ i u⟩
theorem St.setF (h : St w L F C D ws f A) (b : Bool) : St (w.setCell ⟨F, 0, none⟩ (.bool b)) L F C D ws b A := by
  obtain ⟨⟨l1, l2, l3⟩, ⟨g, off, cap, h1, h2, h3, h4⟩, hf, hn, ha⟩ := h
  exact ⟨⟨l1, l2, l3⟩, ⟨g, off, cap, h1.far (by show L ≠ F; omega) _, ⟨h2.1, h2.2.1, fun j x hx => by rw [World.cell?_of_block (w := w) (Below.heap_setCell w _ _ g (by show g ≠ F; omega))]; exact h2.2.2 j x hx⟩, h3, h4⟩,
    hf.set_ 0 _, hn.far (by show C ≠ F; omega) _, ha.far (by show D ≠ F; omega) _⟩
/-- The length of what is left, as the walk reads it. -/
theorem St.len (h : St w L F C D ws f A) : ∃ V cap, w.cell? ⟨L, 0, none⟩ = some (.slice V ws.length cap) := by
  obtain ⟨g, off, cap, h1, _⟩ := h.l
  exact ⟨_, cap, h1.cell 0⟩
end
theorem below_keep {G : Nat → Prop} {B : Nat} {a w w' : World} (h : Below B a w) (k : Keep G w w') (hG : ∀ x, x < B → ¬ G x) (hB : B ≤ w.heap.size) : Below B a w' :=
  ⟨k.os.trans h.os, k.tape.trans h.tape, k.output.trans h.output, Nat.le_trans h.size k.size, fun x hx => (k.block x (Nat.lt_of_lt_of_le hx hB) (hG x hx)).trans (h.block x hx)⟩
theorem next_run (w : World) (L F C D : Nat) (ws : List Bs) (f : Bool) (A : Array Value) (h : St w L F C D ws f A) :
    Calls Tryd.prog 30 #[.pointer (some ⟨L, 0, none⟩), .pointer (some ⟨F, 0, none⟩)] w fun e w' => e = .returned (.string ⟨(nextW ws).toArray⟩) ∧ St w' L F C D (nextL ws) (nextF ws f) A ∧ Keep (Two L F) w w' := by
  have h0 := h
  obtain ⟨⟨l1, l2, l3⟩, ⟨g, off, cap, h1, h2, h3, h4⟩, hf, hn, ha⟩ := h
  match ws, h0, h1, h2, h4 with
  | [x], h0, h1, h2, _ =>
    refine (next_none w L F _ x f (some ⟨g, off, none⟩) cap rfl h1 hf).mono ?_
    rintro e w' ⟨rfl, rfl⟩
    exact ⟨rfl, h0.setF false, (Keep.refl (Two L F) w).setCell (.inl (.inr rfl)) _⟩
  | x :: y :: r, h0, h1, h2, _ =>
    refine (next_some w L F x y r f g off cap h1 hf h2 (by omega)).mono ?_
    rintro e w' ⟨rfl, rfl⟩
    refine ⟨rfl, ⟨⟨l1, l2, l3⟩, ⟨g, off + 1, cap - 1, h1.set_ 0 _, ⟨by have := h2.1; simp [nextL] at this ⊢; omega, by have := h2.2.1; simp [nextL] at this ⊢; omega, fun j z hz => ?_⟩, h3, by simp [nextL]⟩, hf.far (by show F ≠ L; omega) _, hn.far (by show C ≠ L; omega) _, ha.far (by show D ≠ L; omega) _⟩, (Keep.refl (Two L F) w).setCell (.inl (.inl rfl)) _⟩
    rw [World.cell?_of_block (w := w) (Below.heap_setCell w _ _ g (by show g ≠ L; omega)), Nat.add_assoc, Nat.add_comm 1 j]
    exact h2.2.2 (j + 1) z (by simpa [nextL] using hz)
def takeN (ws : List Bs) : Int := ((numB (nextW ws)).getD 0 : Nat)
def takeF (ws : List Bs) (f : Bool) : Bool := nextF ws f && (numB (nextW ws)).isSome
def Short (ws : List Bs) : Prop := ws.length ≤ 900001 ∧ ∀ x ∈ ws, x.length ≤ 1000000
theorem Short.next {ws : List Bs} (h : Short ws) : (nextW ws).length ≤ 1000000 ∧ Short (nextL ws) := by
  match ws, h with
  | [], h => exact ⟨by simp [nextW], h⟩
  | [x], h => exact ⟨by simp [nextW], h⟩
  | x :: y :: r, h => exact ⟨h.2 y (by simp), by have := h.1; simp [nextL] at this ⊢; omega, fun z hz => h.2 z (List.mem_cons_of_mem _ hz)⟩
theorem next_len {ws : List Bs} (h : 1 < ws.length) : (nextL ws).length + 1 = ws.length := by
  match ws, h with
  | x :: y :: r, _ => simp [nextL]
set_option maxRecDepth 100000 in
theorem take_run (w : World) (L F C D : Nat) (ws : List Bs) (f : Bool) (A : Array Value) (h : St w L F C D ws f A) (hs : Short ws) :
    Calls Tryd.prog 31 #[.pointer (some ⟨C, 0, none⟩), .pointer (some ⟨F, 0, none⟩)] w fun e w' => e = .returned (.int .i64 (takeN ws)) ∧ St w' L F C D (nextL ws) (takeF ws f) A ∧ Keep (Two L F) w w' := by
  have N := Lib.hid (next_run w L F C D ws f A h)
  have x1 := h.n.cell 0
  simp at x1
  have hl := hs.next.1
  clear hs h
  unfold takeN takeF
  generalize hy : nextW ws = y at N hl
  generalize nextF ws f = f1 at N
  clear hy
  have M := Lib.hid (fun w => number_run y (by omega) w)
  generalize ((numB y).getD 0 : Nat) = n at M
  generalize (numB y).isSome = b at M
  clear hl
  go_enter Tryd.func31, Tryd.ntmps31
  go_wp2_with fail
  refine N.out.mono ?_
  rintro e w1 ⟨rfl, hs, hk⟩
  have HS := Lib.hid hs
  have HK := Lib.hid hk
  clear hk
  go_wp2_with fail
  refine (M.out _).mono ?_
  rintro e w2 ⟨rfl, hw⟩
  obtain rfl := hw.symm
  have x2 := hs.f.cell 0
  have x3 := hs.f.frozen 0
  simp at x2
  clear hs
  cases f1
  · go_wp2_with fail
    go_ret
    exact ⟨rfl, HS.out.setF false, HK.out.setCell (.inl (.inr rfl)) _⟩
  · go_wp2_with fail
    go_ret
    exact ⟨rfl, HS.out.setF b, HK.out.setCell (.inl (.inr rfl)) _⟩
end Go.Proofs.YtmhhnmbedlhflaaDoor
