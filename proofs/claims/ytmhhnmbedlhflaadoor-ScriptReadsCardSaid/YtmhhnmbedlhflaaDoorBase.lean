/- Words for memory: a block that is known whole; what may have turned; a slice that is owned, at whatever place of its block; append onto it. -/
import Derived.Test.YtmhhnmbedlhflaaDoorChecked
import Derived.WalkKit
import Derived.Deep.OwnRows
import Derived.Deep.LoopGhost
import Derived.Deep.QuietTactic
import Derived.Deep.AppendLies
import Derived.Deep.AppendSrc
import Derived.BigQuiet
import Derived.BigRegion
import Derived.Lib.Hide
import Derived.Deep.Draws
import Derived.Deep.Cut
import Derived.Deep.CutRange
namespace Go.Proofs.YtmhhnmbedlhflaaDoor
open Go.RowKit

/-- Block g is just these cells. -/
def Blk (w : World) (g : Nat) (t : TypeId) (cs : Array Value) : Prop := w.heap[g]? = some (.cells cs t (0, 0))

section
variable {w w' : World} {g : Nat} {t : TypeId} {cs : Array Value}
theorem Blk.lt (h : Blk w g t cs) : g < w.heap.size := by
  rcases Nat.lt_or_ge g w.heap.size with hlt | hge
  · exact hlt
  · unfold Blk at h; rw [Array.getElem?_eq_none hge] at h; cases h
theorem Blk.cell (h : Blk w g t cs) (i : Nat) : w.cell? ⟨g, i, none⟩ = cs[i]? := by
  unfold Blk at h
  simp [World.cell?, h]
theorem Blk.frozen (h : Blk w g t cs) (i : Nat) : w.frozen? ⟨g, i, none⟩ = false := by
  unfold Blk at h
  simp [World.frozen?, h]
theorem Blk.new (w : World) (t : TypeId) (cs : Array Value) : Blk (w.alloc (.cells cs t)) w.heap.size t cs := heap_alloc_new w _
theorem Blk.drew (h : Blk w g t cs) : Blk w.drew g t cs := h
theorem Blk.drewN (h : Blk w g t cs) (n : Nat) : Blk (w.drewN n) g t cs := h
theorem Blk.alloc (h : Blk w g t cs) (o : Obj) : Blk (w.alloc o) g t cs := (Below.heap_alloc w o g h.lt).trans h
theorem Blk.set_ (h : Blk w g t cs) (i : Nat) (u : Value) : Blk (w.setCell ⟨g, i, none⟩ u) g t (cs.setIfInBounds i u) := by
  unfold Blk at h ⊢
  simp [World.setCell, Array.getElem?_modify, h]
theorem Blk.far (h : Blk w g t cs) {p : Addr} (hp : g ≠ p.block) (u : Value) : Blk (w.setCell p u) g t cs := (Below.heap_setCell w p u g hp).trans h
theorem Blk.of_block (h : Blk w g t cs) (e : w'.heap[g]? = w.heap[g]?) : Blk w' g t cs := e.trans h
theorem Blk.ne_ {g' : Nat} {t' : TypeId} {cs' : Array Value} (h : Blk w g t cs) (h' : Blk w g' t' cs') (hne : t ≠ t') : g ≠ g' := by
  rintro rfl
  unfold Blk at h h'
  rw [h] at h'
  injection h' with h'
  injection h' with _ ht
  exact hne ht
theorem Blk.row {n : Nat} {f : Nat → Value} (h : Blk w g t cs) (hn : cs.size = n) (hf : ∀ i, i < n → cs[i]? = some (f i)) : w.rowIs g t n f := ⟨cs, h, hn, hf⟩
end
theorem row_blk {w : World} {g : Nat} {t : TypeId} {n : Nat} {f : Nat → Value} (h : w.rowIs g t n f) : ∃ cs, Blk w g t cs ∧ cs.size = n ∧ ∀ i, i < n → cs[i]? = some (f i) := h
theorem row_ne {w : World} {g g' : Nat} {t t' : TypeId} {n n' : Nat} {f f' : Nat → Value} (h : w.rowIs g t n f) (h' : w.rowIs g' t' n' f') (hne : t ≠ t') : g ≠ g' := by
  obtain ⟨_, h, _⟩ := h
  obtain ⟨_, h', _⟩ := h'
  exact Blk.ne_ h h' hne
theorem row_drewN {w : World} {g : Nat} {t : TypeId} {n : Nat} {f : Nat → Value} (h : w.rowIs g t n f) (k : Nat) : (w.drewN k).rowIs g t n f := h

/-- Nothing but blocks of F, and new ones, may have turned. -/
structure Keep (F : Nat → Prop) (a w : World) : Prop where
  os : w.os = a.os
  tape : w.tape = a.tape
  output : w.output = a.output
  size : a.heap.size ≤ w.heap.size
  block : ∀ k, k < a.heap.size → ¬ F k → w.heap[k]? = a.heap[k]?

section
variable {F G : Nat → Prop} {a b w : World}
theorem Keep.refl (F : Nat → Prop) (a : World) : Keep F a a := ⟨rfl, rfl, rfl, Nat.le_refl _, fun _ _ _ => rfl⟩
theorem Keep.trans (h : Keep F a b) (k : Keep G b w) (hg : ∀ x, x < a.heap.size → G x → F x) : Keep F a w :=
  ⟨k.os.trans h.os, k.tape.trans h.tape, k.output.trans h.output, Nat.le_trans h.size k.size, fun x hx hf => (k.block x (Nat.lt_of_lt_of_le hx h.size) (fun g => hf (hg x hx g))).trans (h.block x hx hf)⟩
theorem Keep.trans' (h : Keep F a b) (k : Keep F b w) : Keep F a w := h.trans k fun _ _ h => h
theorem Keep.mono (h : Keep F a w) (hg : ∀ x, x < a.heap.size → F x → G x) : Keep G a w := ⟨h.os, h.tape, h.output, h.size, fun x hx hf => h.block x hx (fun g => hf (hg x hx g))⟩
theorem Keep.drew (h : Keep F a w) : Keep F a w.drew := ⟨h.os, h.tape, h.output, h.size, h.block⟩
theorem Keep.drewN (h : Keep F a w) (n : Nat) : Keep F a (w.drewN n) := ⟨h.os, h.tape, h.output, h.size, h.block⟩
theorem Keep.alloc (h : Keep F a w) (o : Obj) : Keep F a (w.alloc o) :=
  ⟨h.os, h.tape, h.output, by have := h.size; simp; omega, fun x hx hf => (Below.heap_alloc w o x (Nat.lt_of_lt_of_le hx h.size)).trans (h.block x hx hf)⟩
theorem Keep.setCell (h : Keep F a w) {p : Addr} (hp : F p.block ∨ a.heap.size ≤ p.block) (u : Value) : Keep F a (w.setCell p u) :=
  ⟨h.os, h.tape, h.output, by simpa [World.setCell] using h.size, fun x hx hf => (Below.heap_setCell w p u x (by
    rintro rfl
    rcases hp with hp | hp
    · exact hf hp
    · omega)).trans (h.block x hx hf)⟩
theorem Keep.grown {row : Option Nat} (h : Keep F a b) (hg : b.grownBy w row) (hr : ∀ k, row = some k → k < a.heap.size → F k) : Keep F a w :=
  ⟨hg.os.trans h.os, hg.tape.trans h.tape, hg.output.trans h.output, Nat.le_trans h.size hg.size, fun x hx hf =>
    (hg.block x (Nat.lt_of_lt_of_le hx h.size) (fun e => hf (hr x e.symm hx))).trans (h.block x hx hf)⟩
theorem Keep.of_since (h : a.Since a.heap.size w) : Keep F a w := ⟨h.os, h.tape, h.output, h.size, fun x hx _ => h.block x hx⟩
theorem Keep.of_below (h : Below a.heap.size a w) : Keep F a w := ⟨h.os, h.tape, h.output, h.size, fun x hx _ => h.block x hx⟩
theorem Keep.below (h : Keep (fun _ => False) a w) : Below a.heap.size a w := ⟨h.os, h.tape, h.output, h.size, fun x hx => h.block x hx (fun f => f)⟩
theorem Keep.cell (h : Keep F a w) {p : Addr} (hp : p.block < a.heap.size) (hf : ¬ F p.block) : w.cell? p = a.cell? p := World.cell?_of_block (w := a) (h.block p.block hp hf)
theorem Keep.frozen (h : Keep F a w) {p : Addr} (hp : p.block < a.heap.size) (hf : ¬ F p.block) : w.frozen? p = a.frozen? p := World.frozen?_of_block (w := a) (h.block p.block hp hf)
theorem Keep.blk {g : Nat} {t : TypeId} {cs : Array Value} (h : Keep F a w) (hb : Blk a g t cs) (hf : ¬ F g) : Blk w g t cs := (h.block g hb.lt hf).trans hb
theorem Keep.row {g : Nat} {t : TypeId} {n : Nat} {f : Nat → Value} (h : Keep F a w) (hb : a.rowIs g t n f) (hf : ¬ F g) : w.rowIs g t n f := hb.of_block (h.block g hb.lt hf)
end

/-! ### A slice that is owned, wherever in its block -/

/-- v: n elements, the cells xs, in a block from base on. -/
def Owns (w : World) (base : Nat) (e : TypeId) (size : Nat) (v : Value) (n : Nat) (xs : List Value) : Prop :=
  xs.length = n * size ∧ ((v = .slice none 0 0 ∧ n = 0) ∨
    ∃ g off cap cur, v = .slice (some ⟨g, off, none⟩) n cap ∧ base ≤ g ∧ w.heap[g]? = some (.cells cur e (0, 0)) ∧ n ≤ cap ∧ cap ≤ maxLen ∧ off + cap * size ≤ cur.size ∧
      ∀ j, j < n * size → cur[off + j]? = xs[j]?)

section
variable {w w' : World} {base : Nat} {e : TypeId} {size : Nat} {v : Value} {n : Nat} {xs : List Value}
theorem Owns.nil (w : World) (base : Nat) (e : TypeId) (size : Nat) : Owns w base e size (.slice none 0 0) 0 [] := ⟨by simp, .inl ⟨rfl, rfl⟩⟩
theorem Owns.of_block (h : Owns w base e size v n xs) (hb : ∀ g, v.ownBlock = some g → w'.heap[g]? = w.heap[g]?) : Owns w' base e size v n xs := by
  refine ⟨h.1, ?_⟩
  rcases h.2 with hn | ⟨g, off, cap, cur, rfl, hbg, hg, r⟩
  · exact .inl hn
  · exact .inr ⟨g, off, cap, cur, rfl, hbg, (hb g rfl).trans hg, r⟩
theorem Owns.block (h : Owns w base e size v n xs) {g : Nat} (hg : v.ownBlock = some g) : base ≤ g ∧ g < w.heap.size ∧ ∃ cur, w.heap[g]? = some (.cells cur e (0, 0)) := by
  rcases h.2 with ⟨rfl, _⟩ | ⟨g', off, cap, cur, rfl, hbg, hgg, _⟩
  · cases hg
  · injection hg with hg
    subst hg
    exact ⟨hbg, (Array.getElem?_eq_some_iff.1 hgg).1, cur, hgg⟩
theorem Owns.drew (h : Owns w base e size v n xs) : Owns w.drew base e size v n xs := h
theorem Owns.drewN (h : Owns w base e size v n xs) (k : Nat) : Owns (w.drewN k) base e size v n xs := h
theorem Owns.alloc (h : Owns w base e size v n xs) (o : Obj) : Owns (w.alloc o) base e size v n xs := h.of_block fun g hg => Below.heap_alloc w o g (h.block hg).2.1
theorem Owns.keep {F : Nat → Prop} (h : Owns w base e size v n xs) (k : Keep F w w') (hf : ∀ g, v.ownBlock = some g → ¬ F g) : Owns w' base e size v n xs := h.of_block fun g hg => k.block g (h.block hg).2.1 (hf g hg)
theorem Owns.grown {row : Option Nat} (h : Owns w base e size v n xs) (k : w.grownBy w' row) (hf : v.ownBlock = none ∨ v.ownBlock ≠ row) : Owns w' base e size v n xs := h.of_block fun g hg => k.block g (h.block hg).2.1 (by
  rw [← hg]; rcases hf with hf | hf
  · rw [hf] at hg; cases hg
  · exact hf)
theorem Owns.setCell (h : Owns w base e size v n xs) {p : Addr} (hp : v.ownBlock ≠ some p.block) (u : Value) : Owns (w.setCell p u) base e size v n xs :=
  h.of_block fun g hg => Below.heap_setCell w p u g (fun e => hp (by rw [hg, e]))
theorem Owns.mono {base' : Nat} (h : Owns w base e size v n xs) (hb : base' ≤ base) : Owns w base' e size v n xs := by
  refine ⟨h.1, ?_⟩
  rcases h.2 with hn | ⟨g, off, cap, cur, hv, hbg, r⟩
  · exact .inl hn
  · exact .inr ⟨g, off, cap, cur, hv, Nat.le_trans hb hbg, r⟩
/-- What it looks like, with an element. -/
theorem Owns.form (h : Owns w base e size v n xs) (hn : 0 < n) : ∃ g off cap, v = .slice (some ⟨g, off, none⟩) n cap ∧ base ≤ g ∧ g < w.heap.size ∧ n ≤ cap ∧
    (∀ j u, xs[j]? = some u → w.cell? ⟨g, off + j, none⟩ = some u) ∧ ∀ j, w.frozen? ⟨g, j, none⟩ = false := by
  rcases h.2 with ⟨_, h0⟩ | ⟨g, off, cap, cur, rfl, hbg, hg, hnc, _, _, hx⟩
  · omega
  · refine ⟨g, off, cap, rfl, hbg, (Array.getElem?_eq_some_iff.1 hg).1, hnc, fun j u hu => ?_, fun j => by simp [World.frozen?, hg]⟩
    have hj : j < n * size := by rw [← h.1]; exact (List.getElem?_eq_some_iff.1 hu).1
    rw [cell_of_row w g (off + j) cur e (0, 0) hg, hx j hj, hu]
theorem Owns.len (h : Owns w base e size v n xs) : ∃ A cap, v = .slice A n cap := by
  rcases h.2 with ⟨hv, h0⟩ | ⟨g, off, cap, cur, hv, _⟩
  · exact ⟨none, 0, by rw [hv, h0]⟩
  · exact ⟨_, _, hv⟩
theorem Owns.of_row (h : w.ownsRow base e size v n xs) : Owns w base e size v n xs := by
  refine ⟨h.1, ?_⟩
  rcases h.2 with hn | ⟨g, cap, cur, hv, hb, hg, hnc, hcm, hcs, htake⟩
  · exact .inl hn
  · refine .inr ⟨g, 0, cap, cur, hv, hb, hg, hnc, hcm, by omega, fun j hj => ?_⟩
    rw [← htake, List.getElem?_take, if_pos hj, Nat.zero_add, Array.getElem?_toList]
/-- A new block, all of it. -/
theorem Owns.made (w : World) (e : TypeId) (size n : Nat) (cs : Array Value) (hc : cs.size = n * size) (hm : n ≤ maxLen) : Owns (w.alloc (.cells cs e)) w.heap.size e size (.slice (some ⟨w.heap.size, 0, none⟩) n n) n cs.toList :=
  ⟨by rw [Array.length_toList, hc], .inr ⟨w.heap.size, 0, n, cs, rfl, Nat.le_refl _, heap_alloc_new w _, Nat.le_refl _, hm, by omega, fun j _ => by rw [Nat.zero_add, Array.getElem?_toList]⟩⟩
/-- A store at an element's cell. -/
theorem Owns.set (h : Owns w base e size v n xs) {g off cap : Nat} (hv : v = .slice (some ⟨g, off, none⟩) n cap) (i : Nat) (u : Value) : Owns (w.setCell ⟨g, off + i, none⟩ u) base e size v n (xs.set i u) := by
  refine ⟨by rw [List.length_set]; exact h.1, ?_⟩
  rcases h.2 with ⟨hn, _⟩ | ⟨g', off', cap', cur, hv', hb, hg, hnc, hcm, hcs, hx⟩
  · rw [hn] at hv; cases hv
  · rw [hv] at hv'
    injection hv' with e1 _ e3
    injection e1 with e1
    injection e1 with e1 e2 _
    subst e1; subst e2; subst e3
    refine .inr ⟨g, off, cap, cur.setIfInBounds (off + i) u, hv, hb, by simp [World.setCell, Array.getElem?_modify, hg], hnc, hcm, by simpa using hcs, fun j hj => ?_⟩
    rw [Array.getElem?_setIfInBounds, List.getElem?_set]
    have hnc' : n * size ≤ cap * size := Nat.mul_le_mul_right _ hnc
    by_cases hij : i = j
    · subst hij
      rw [if_pos rfl, if_pos rfl, if_pos (by omega), if_pos (by rw [h.1]; exact hj)]
    · rw [if_neg (by omega), if_neg hij]
      exact hx j hj
/-- v[k:] -/
theorem Owns.from_ (h : Owns w base e size v n xs) {g off cap : Nat} (hv : v = .slice (some ⟨g, off, none⟩) n cap) {k : Nat} (hk : k ≤ n) :
    Owns w base e size (.slice (some (if cap = k then ⟨g, off, none⟩ else ⟨g, off + k * size, none⟩)) (n - k) (cap - k)) (n - k) (xs.drop (k * size)) := by
  refine ⟨by rw [List.length_drop, h.1, Nat.sub_mul], ?_⟩
  rcases h.2 with ⟨hn, _⟩ | ⟨g', off', cap', cur, hv', hb, hg, hnc, hcm, hcs, hx⟩
  · rw [hn] at hv; cases hv
  · rw [hv] at hv'
    injection hv' with e1 _ e3
    injection e1 with e1
    injection e1 with e1 e2 _
    subst e1; subst e2; subst e3
    have hkc : k * size ≤ cap * size := Nat.mul_le_mul_right _ (by omega)
    by_cases hc : cap = k
    · subst hc
      have : n = cap := by omega
      subst this
      rw [if_pos rfl]
      refine .inr ⟨g, off, _, cur, rfl, hb, hg, by omega, by omega, by simp; omega, fun j hj => by simp at hj⟩
    · rw [if_neg hc]
      refine .inr ⟨g, off + k * size, _, cur, rfl, hb, hg, by omega, by omega, by rw [Nat.sub_mul]; omega, fun j hj => ?_⟩
      rw [Nat.sub_mul] at hj
      rw [List.getElem?_drop, ← hx (k * size + j) (by omega), Nat.add_assoc]
end

theorem run_from {P : Program} (t e : TypeId) (i : TypeInfo) (ht : P.underlying t = some (.slice e)) (hi : P.info? e = some i) (a : Addr) (len cap k : Nat) (hk : k ≤ len) (kl : IntKind) (w : World) :
    (Instr.sliceAt t (.slice (some a) len cap) (some (.int kl k)) none none).run P w = .ok (.slice (some (if cap = k then a else a.add (k * i.size))) (len - k) (cap - k)) w := by
  have h0 : (0 : Int) ≤ k := by omega
  have h1 : (k : Int) ≤ len := by omega
  simp [Instr.sliceAt, Instr.slice, Instr.sliceBounds, Instr.sliceBound, asIntOf, run_underlying ht, sizeOf, typeInfo, hi, h1]
  by_cases h : cap = k <;> simp [h] <;> (intro hlt; omega)

theorem heap_setCells (b : Nat) : ∀ (vs : List Value) (o : Nat) (w : World) (k : Nat), k ≠ b → (w.setCells b o vs).heap[k]? = w.heap[k]?
  | [], _, _, _, _ => rfl
  | v :: vs, o, w, k, hk => by
    show ((w.setCell ⟨b, o, none⟩ v).setCells b (o + 1) vs).heap[k]? = _
    rw [heap_setCells b vs (o + 1) _ k hk, Below.heap_setCell _ _ _ _ hk]
/-- the cells of a row with some others laid over them -/
def overlay (cur : Array Value) : Nat → List Value → Array Value
  | _, [] => cur
  | o, v :: vs => overlay (cur.setIfInBounds o v) (o + 1) vs
theorem size_overlay : ∀ (vs : List Value) (cur : Array Value) (o : Nat), (overlay cur o vs).size = cur.size
  | [], _, _ => rfl
  | v :: vs, cur, o => by unfold overlay; rw [size_overlay vs]; simp
theorem get_overlay : ∀ (vs : List Value) (cur : Array Value) (o j : Nat), o + vs.length ≤ cur.size → (overlay cur o vs)[j]? = if o ≤ j ∧ j < o + vs.length then vs[j - o]? else cur[j]?
  | [], cur, o, j, _ => by
    unfold overlay
    rw [if_neg (by simp only [List.length_nil]; omega)]
  | v :: vs, cur, o, j, h => by
    unfold overlay
    rw [List.length_cons] at h
    rw [get_overlay vs _ (o + 1) j (by simp; omega)]
    by_cases e : j = o
    · subst e
      rw [if_neg (by omega), if_pos (by simp), Nat.sub_self, Array.getElem?_setIfInBounds, if_pos rfl, if_pos (by omega)]
      simp
    · by_cases hj : o + 1 ≤ j ∧ j < o + 1 + vs.length
      · rw [if_pos hj, if_pos (by simp; omega)]
        obtain ⟨d, rfl⟩ : ∃ d, j = o + 1 + d := ⟨j - (o + 1), by omega⟩
        rw [show o + 1 + d - (o + 1) = d from by omega, show o + 1 + d - o = d + 1 from by omega]; rfl
      · rw [if_neg hj, if_neg (by simp; omega), Array.getElem?_setIfInBounds, if_neg (by omega)]
theorem setCells_heap (b : Nat) {t : TypeId} : ∀ (vs : List Value) (o : Nat) (w : World) (cur : Array Value), w.heap[b]? = some (.cells cur t (0, 0)) → (w.setCells b o vs).heap[b]? = some (.cells (overlay cur o vs) t (0, 0))
  | [], _, _, _, h => h
  | v :: vs, o, w, cur, h => by
    show ((w.setCell ⟨b, o, none⟩ v).setCells b (o + 1) vs).heap[b]? = _
    exact setCells_heap b vs (o + 1) _ _ (by simp [World.setCell, Array.getElem?_modify, h])
theorem setCells_rest (b : Nat) : ∀ (vs : List Value) (o : Nat) (w : World), (w.setCells b o vs).os = w.os ∧ (w.setCells b o vs).tape = w.tape ∧ (w.setCells b o vs).output = w.output ∧ (w.setCells b o vs).heap.size = w.heap.size
  | [], _, _ => ⟨rfl, rfl, rfl, rfl⟩
  | v :: vs, o, w => by
    obtain ⟨h1, h2, h3, h4⟩ := setCells_rest b vs (o + 1) (w.setCell ⟨b, o, none⟩ v)
    exact ⟨h1, h2, h3, h4.trans (by simp [World.setCell])⟩
theorem setCells_drewN (w : World) (b o : Nat) (vs : List Value) (n : Nat) : (w.drewN n).setCells b o vs = (w.setCells b o vs).drewN n := by
  induction vs generalizing o w with
  | nil => rfl
  | cons v vs ih => exact ih (w.setCell ⟨b, o, none⟩ v) (o + 1)

section
variable {P : Program} (w : World)
/-- append onto what is owned. -/
theorem run_append_owns (base : Nat) (t tx ty e : TypeId) (i : TypeInfo) (z : Value) (size bytes : Nat) (ht : P.underlying t = some (.slice e)) (hi : P.info? e = some i) (hz : i.zero = some z)
    (hsize : i.size = size) (hby : i.bytes = bytes) (hzs : z.cells.size = size) (hsz : 0 < size)
    (v : Value) (n : Nat) (xs : List Value) (hown : Owns w base e size v n xs) (x : Value) (m : Nat) (news : List Value) (hs : Src P size tx x m news w)
    (h63 : n + m ≤ maxLen) (hbytes : (n + m) * bytes ≤ 140737488355328) (hbase : base ≤ w.heap.size) :
    ∃ v' w', (Builtin.append_ #[t, tx] ty #[v, x]).run P w = .ok v' w' ∧ Owns w' base e size v' (n + m) (xs ++ news) ∧ w.grownBy w' v.ownBlock ∧
      (v'.ownBlock = v.ownBlock ∨ v'.ownBlock = some w.heap.size) ∧ (v' = .slice none 0 0 ↔ v = .slice none 0 0 ∧ m = 0) := by
  subst hsize
  subst hby
  have hlen : (xs ++ news).length = (n + m) * i.size := by rw [List.length_append, hown.1, hs.newsLen, Nat.add_mul]
  have hsmall : ((n + m : Nat) : Int) ≤ 9223372036854775807 := by simp only [maxLen] at h63; omega
  have grow : ∀ (B : Option Addr) (cap : Nat), v = .slice B n cap → cap < n + m → (Builtin.firstCells i.size n (.slice B n cap)).run P w.drew = .ok xs.toArray w.drew →
      ∃ v' w', (Builtin.append_ #[t, tx] ty #[v, x]).run P w = .ok v' w' ∧ Owns w' base e i.size v' (n + m) (xs ++ news) ∧ w.grownBy w' v.ownBlock ∧ (v'.ownBlock = v.ownBlock ∨ v'.ownBlock = some w.heap.size) ∧ (v' = .slice none 0 0 ↔ v = .slice none 0 0 ∧ m = 0) := by
    intro B cap hv hlt hold
    have hr := run_append_grow_src w t tx ty e i z ht hi hz B n cap xs hold x m news hs hlt hsmall (growslice_fits hlt hbytes)
    refine ⟨_, _, by rw [hv]; exact hr, ⟨hlen, .inr ⟨w.heap.size, 0, _, _, rfl, hbase, heap_alloc_new w.drew _, grownCap_ge w (n + m) cap e, grownCap_le_maxLen w (n + m) cap e h63, ?_, fun j hj => ?_⟩⟩,
      ⟨rfl, rfl, rfl, by simp, fun k hk _ => Below.heap_alloc w.drew _ k hk⟩, .inr rfl, ⟨fun h => (by cases h), fun h => (by
        obtain ⟨h1, h2⟩ := h
        rw [hv] at h1
        injection h1 with _ h3 h4
        omega)⟩⟩
    · have hge := grownCap_ge w (n + m) cap e
      simp only [Array.size_append, List.size_toArray, size_zeroCells, hzs, hlen, ← Nat.add_mul, Nat.zero_add]
      exact Nat.mul_le_mul_right _ (by omega)
    · rw [Nat.zero_add, Array.getElem?_append, if_pos (by simp only [List.size_toArray, hlen]; exact hj), List.getElem?_toArray]
  rcases hown.2 with ⟨hv, hn0⟩ | ⟨g, off, cap, cur, hv, hbg, hg, hnc, hcm, hcs, hx⟩
  · subst hn0
    have hx : xs = [] := List.eq_nil_of_length_eq_zero (by simpa using hown.1)
    subst hx
    by_cases hm : m = 0
    · subst hm
      have hnn : news = [] := List.eq_nil_of_length_eq_zero (by simpa using hs.newsLen)
      subst hnn
      refine ⟨v, w, ?_, hown, ⟨rfl, rfl, rfl, Nat.le_refl _, fun _ _ _ => rfl⟩, .inl rfl, by simp⟩
      rw [hv]
      have hc := hs.cells
      rcases hs.kind with ⟨e', hk⟩ | hk <;> simp [Builtin.append_, run_underlying ht, run_underlying hk, sizeOf, typeInfo, hi, hs.len, hc]
    · exact grow none 0 hv (by omega) (by simp [Builtin.firstCells])
  · by_cases hroom : n + m ≤ cap
    · have hfit : off + n * i.size + news.length ≤ cur.size := by
        rw [hs.newsLen]
        have : (n + m) * i.size ≤ cap * i.size := Nat.mul_le_mul_right _ hroom
        rw [Nat.add_mul] at this
        omega
      have hr := run_append_room_src w t tx ty e i ht hi g off n cap x m news hs hroom
        (fun j hj => by rw [cell_of_row w g _ cur e (0, 0) hg, Array.getElem?_eq_getElem (by omega)]; rfl) (fun j _ => by simp [World.frozen?, hg])
      obtain ⟨r1, r2, r3, r4⟩ := setCells_rest g news (off + n * i.size) w
      refine ⟨_, _, by rw [hv]; exact hr, ⟨hlen, .inr ⟨g, off, cap, _, rfl, hbg, setCells_heap g news _ w cur hg, hroom, hcm, by rw [size_overlay]; exact hcs, fun j hj => ?_⟩⟩,
        ⟨r1, r2, r3, by rw [r4]; exact Nat.le_refl _, fun k _ hk => heap_setCells g news _ w k (fun e => hk (by rw [hv, e]; rfl))⟩, .inl (by rw [hv]; rfl), ⟨fun h => (by cases h), fun h => (by rw [hv] at h; cases h.1)⟩⟩
      rw [get_overlay news cur _ _ hfit]
      have hx1 := hown.1
      by_cases hjn : j < n * i.size
      · rw [if_neg (by omega), hx j hjn, List.getElem?_append, if_pos (by omega)]
      · rw [if_pos (by rw [hs.newsLen]; rw [Nat.add_mul] at hj; omega), List.getElem?_append, if_neg (by omega), hx1]
        congr 1; omega
    · refine grow (some ⟨g, off, none⟩) cap hv (by omega) ?_
      refine run_firstCells_some (P := P) w.drew i.size n _ n cap xs hown.1 (fun j u hu => ?_)
      have hj : j < n * i.size := by rw [← hown.1]; exact (List.getElem?_eq_some_iff.1 hu).1
      have hadd : (⟨g, off, none⟩ : Addr).add j = ⟨g, off + j, none⟩ := by unfold Addr.add; split <;> simp_all
      rw [hadd]
      show w.cell? _ = _
      rw [cell_of_row w g _ cur e (0, 0) hg, hx j hj, hu]

theorem wp_append_owns {o : Oper} {a : Act} {K : Act → World → Prop} {Q : Exit → Act → World → Prop} (s x : Operand) (t tx : TypeId)
    (ho : o.op = .call { callee := .builtin .append, args := #[s, x], argTypes := #[t, tx] })
    (base : Nat) (e : TypeId) (i : TypeInfo) (z : Value) (size bytes : Nat) (ht : P.underlying t = some (.slice e)) (hi : P.info? e = some i) (hz : i.zero = some z)
    (hsize : i.size = size) (hby : i.bytes = bytes) (hzs : z.cells.size = size) (hsz : 0 < size)
    (v : Value) (n : Nat) (xs : List Value) (hv : a.eval s = v) (hown : Owns w base e size v n xs) (xv : Value) (m : Nat) (news : List Value) (hx : a.eval x = xv) (hs : Src P size tx xv m news w)
    (h63 : n + m ≤ maxLen) (hbytes : (n + m) * bytes ≤ 140737488355328) (hbase : base ≤ w.heap.size)
    (h : ∀ v' w', Owns w' base e size v' (n + m) (xs ++ news) → w.grownBy w' v.ownBlock → (v'.ownBlock = v.ownBlock ∨ v'.ownBlock = some w.heap.size) → (v' = .slice none 0 0 ↔ v = .slice none 0 0 ∧ m = 0) → K (a.put o.dst v') w') : o.wp P a w K Q := by
  obtain ⟨v', w', hr, h2, h3, h4, h5⟩ := run_append_owns (P := P) w base t tx o.type e i z size bytes ht hi hz hsize hby hzs hsz v n xs hown xv m news hs h63 hbytes hbase
  unfold Oper.wp execOp
  simp only [ho, resolve, invoke, builtin, Sem.run_bind, Sem.run_pure, Result.andThen_ok, List.map_toArray, List.map_cons, List.map_nil, hv, hx, hr]
  exact h v' w' h2 h3 h4 h5
theorem wpList_append_owns {ops : Array Oper} {rest : List Oper} {o : Oper} {a : Act} {Q : Exit → Act → World → Prop} (hgd : o.guard = none) (s x : Operand) (t tx : TypeId)
    (ho : o.op = .call { callee := .builtin .append, args := #[s, x], argTypes := #[t, tx] })
    (base : Nat) (e : TypeId) (i : TypeInfo) (z : Value) (size bytes : Nat) (ht : P.underlying t = some (.slice e)) (hi : P.info? e = some i) (hz : i.zero = some z)
    (hsize : i.size = size) (hby : i.bytes = bytes) (hzs : z.cells.size = size) (hsz : 0 < size)
    (v : Value) (n : Nat) (xs : List Value) (hv : a.eval s = v) (hown : Owns w base e size v n xs) (xv : Value) (m : Nat) (news : List Value) (hx : a.eval x = xv) (hs : Src P size tx xv m news w)
    (h63 : n + m ≤ maxLen) (hbytes : (n + m) * bytes ≤ 140737488355328) (hbase : base ≤ w.heap.size)
    (h : ∀ v' w', Owns w' base e size v' (n + m) (xs ++ news) → w.grownBy w' v.ownBlock → (v'.ownBlock = v.ownBlock ∨ v'.ownBlock = some w.heap.size) → (v' = .slice none 0 0 ↔ v = .slice none 0 0 ∧ m = 0) → wpList P ops Q rest (a.put o.dst v') w') : wpList P ops Q (o :: rest) a w :=
  wpList_plain hgd fun _ hK => wp_append_owns w s x t tx ho base e i z size bytes ht hi hz hsize hby hzs hsz v n xs hv hown xv m news hx hs h63 hbytes hbase fun v' w' h2 h3 h4 h5 => hK _ _ (h v' w' h2 h3 h4 h5)
end
end Go.Proofs.YtmhhnmbedlhflaaDoor
