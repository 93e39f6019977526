/- Maps with keys that are whole numbers or strings, told by what each key has: looked up, written, made. -/
import Derived.Test.YtmhhnmbedlhflaaDoorBase
import Derived.Maps.OwnOps
namespace Go.Proofs.YtmhhnmbedlhflaaDoor
open Go.RowKit

/-- Keys: how they are values, and that the model compares them at once. -/
structure Keys (α : Type) [DecidableEq α] where
  kd : TypeDesc
  v : α → Value
  same : ∀ a b, Instr.sameNow kd (v a) (v b) = some (decide (a = b))
  bits : ∀ a, Instr.sameBits 10000 (v a) (v a) = true
  plain : ∀ (P : Program) (t : TypeId) (w : World) (e : Bool) (a : α), P.underlying t = some kd → (Instr.checkKey e 10000 t (v a)).run P w = .ok () w
theorem keys_inj {α : Type} [DecidableEq α] (K : Keys α) {a b : α} (h : K.v a = K.v b) : a = b := by
  have h1 := K.same a b
  rw [← h] at h1
  rw [K.same a a] at h1
  simpa using h1
theorem beq_bytes (a b : ByteArray) : (a == b) = decide (a = b) := by
  cases a with | mk x => cases b with | mk y =>
  show (x == y) = _
  by_cases h : x = y
  · subst h; simp
  · simp [h]
theorem plain_int (P : Program) (t : TypeId) (w : World) (e : Bool) (k : IntKind) (a : Int) (n : Nat) (h : P.underlying t = some (.int .i64)) : (Instr.checkKey e (n + 1) t (.int k a)).run P w = .ok () w := by
  simp [Instr.checkKey, run_underlying h]
theorem plain_str (P : Program) (t : TypeId) (w : World) (e : Bool) (a : ByteArray) (n : Nat) (h : P.underlying t = some .string) : (Instr.checkKey e (n + 1) t (.string a)).run P w = .ok () w := by
  simp [Instr.checkKey, run_underlying h]
theorem bits_str (n : Nat) (a : ByteArray) : Instr.sameBits n (.string a) (.string a) = true := by
  unfold Instr.sameBits
  cases n <;> (show (a == a) = true; rw [beq_bytes]; simp)
theorem bits_int (n : Nat) (k : IntKind) (a : Int) : Instr.sameBits n (.int k a) (.int k a) = true := by
  unfold Instr.sameBits
  cases n <;> simp
def intKeys : Keys Int where
  kd := .int .i64
  v := .int .i64
  same a b := by simp [Instr.sameNow]; rfl
  bits a := bits_int _ _ a
  plain P t w e a h := plain_int P t w e _ a 9999 h
def strKeys : Keys ByteArray where
  kd := .string
  v := .string
  same a b := by
    show some (a == b) = _
    rw [beq_bytes]
  bits a := bits_str _ a
  plain P t w e a h := plain_str P t w e a 9999 h

section
variable {α : Type} [DecidableEq α] (K : Keys α)
/-- The entries, as keys and what they have. -/
def Ents (es : List MapEntry) (l : List (α × Value)) : Prop := es.map (fun e => (e.key, e.val)) = l.map (fun x => (K.v x.1, x.2))
def getE (l : List (α × Value)) (a : α) : Option Value := (l.find? fun x => decide (a = x.1)).map (·.2)
def setE : List (α × Value) → α → Value → List (α × Value)
  | [], a, v => [(a, v)]
  | x :: l, a, v => if a = x.1 then (x.1, v) :: l else x :: setE l a v
theorem getE_cons (x : α × Value) (l : List (α × Value)) (a : α) : getE (x :: l) a = if a = x.1 then some x.2 else getE l a := by
  unfold getE
  rw [List.find?_cons]
  by_cases h : a = x.1 <;> simp [h]
theorem getE_set (l : List (α × Value)) (a b : α) (v : Value) : getE (setE l a v) b = if b = a then some v else getE l b := by
  induction l with
  | nil => unfold setE; rw [getE_cons]
  | cons x l ih =>
    unfold setE
    by_cases h : a = x.1
    · rw [if_pos h, getE_cons, getE_cons]
      by_cases hb : b = a
      · subst hb; rw [if_pos h, if_pos rfl]
      · rw [if_neg hb, if_neg (fun e => hb (e.trans h.symm)), if_neg (fun e => hb (e.trans h.symm))]
    · rw [if_neg h, getE_cons, getE_cons, ih]
      by_cases hb : b = x.1
      · subst hb; rw [if_pos rfl, if_neg (fun e => h e.symm), if_pos rfl]
      · rw [if_neg hb, if_neg hb]
theorem setE_keys (l : List (α × Value)) (a : α) (v : Value) : (setE l a v).map (·.1) = if a ∈ l.map (·.1) then l.map (·.1) else l.map (·.1) ++ [a] := by
  induction l with
  | nil => simp [setE]
  | cons x l ih =>
    unfold setE
    by_cases h : a = x.1
    · rw [if_pos h]; simp [h]
    · rw [if_neg h, List.map_cons, ih]
      by_cases hm : a ∈ l.map (·.1)
      · rw [if_pos hm, if_pos (by simp only [List.map_cons]; exact List.mem_cons_of_mem _ hm)]; simp
      · rw [if_neg hm, if_neg (by simp only [List.map_cons, List.mem_cons, not_or]; exact ⟨h, hm⟩)]; simp
theorem getE_some {l : List (α × Value)} {a : α} {v : Value} (h : getE l a = some v) : (a, v) ∈ l := by
  induction l with
  | nil => simp [getE] at h
  | cons x l ih =>
    rw [getE_cons] at h
    by_cases e : a = x.1
    · rw [if_pos e] at h; injection h with h; subst h; subst e; exact List.mem_cons_self
    · rw [if_neg e] at h; exact List.mem_cons_of_mem _ (ih h)
theorem getE_none {l : List (α × Value)} {a : α} : getE l a = none ↔ a ∉ l.map (·.1) := by
  induction l with
  | nil => simp [getE]
  | cons x l ih =>
    rw [getE_cons]
    by_cases e : a = x.1
    · rw [if_pos e]; simp [e]
    · rw [if_neg e, ih]; simp [e]

theorem findNow_get {es : List MapEntry} {l : List (α × Value)} (h : Ents K es l) (a : α) (i : Nat) :
    (getE l a = none → Instr.findNow K.kd (K.v a) es i = some none) ∧
    (∀ v, getE l a = some v → ∃ j e, es[j]? = some e ∧ e.key = K.v a ∧ Instr.findNow K.kd (K.v a) es i = some (some (i + j, v)) ∧
      (∀ u, Ents K (es.modify j fun e => { e with key := K.v a, val := u }) (setE l a u))) := by
  induction es generalizing l i with
  | nil =>
    cases l with
    | nil => exact ⟨fun _ => rfl, fun v hv => by simp [getE] at hv⟩
    | cons x l => simp [Ents] at h
  | cons e es ih =>
    cases l with
    | nil => simp [Ents] at h
    | cons x l =>
      have h1 : e.key = K.v x.1 ∧ e.val = x.2 := by simp only [Ents, List.map_cons, List.cons.injEq, Prod.mk.injEq] at h; exact h.1
      have h2 : Ents K es l := by simp only [Ents, List.map_cons, List.cons.injEq] at h; exact h.2
      have hs : Instr.findNow K.kd (K.v a) (e :: es) i = if a = x.1 then some (some (i, e.val)) else Instr.findNow K.kd (K.v a) es (i + 1) := by
        show (match Instr.sameNow K.kd (K.v a) e.key with | some true => some (some (i, e.val)) | some false => Instr.findNow K.kd (K.v a) es (i + 1) | none => none) = _
        rw [h1.1, K.same]
        by_cases ha : a = x.1 <;> simp [ha]
      rw [hs, getE_cons]
      by_cases ha : a = x.1
      · rw [if_pos ha, if_pos ha]
        refine ⟨fun hn => (by cases hn), fun v hv => ⟨0, e, rfl, by rw [ha]; exact h1.1, by injection hv with hv; rw [h1.2, hv]; rfl, fun u => ?_⟩⟩
        unfold setE
        rw [if_pos ha]
        show (({ e with key := K.v a, val := u } :: es).map _) = _
        simp only [List.map_cons, ha]
        rw [show es.map (fun e => (e.key, e.val)) = _ from h2]
      · rw [if_neg ha, if_neg ha]
        obtain ⟨g1, g2⟩ := ih h2 (i + 1)
        refine ⟨g1, fun v hv => ?_⟩
        obtain ⟨j, e', k1, k2, k3, k4⟩ := g2 v hv
        refine ⟨j + 1, e', by simpa using k1, k2, by rw [k3]; congr 3; omega, fun u => ?_⟩
        unfold setE
        rw [if_neg ha]
        show ((e :: es.modify j _).map _) = _
        simp only [List.map_cons]
        rw [show ((es.modify j _).map fun e => (e.key, e.val)) = _ from k4 u, h1.1, h1.2]

/-- The block is a map of just these entries; their births rise. -/
def MapIs (w : World) (g : Nat) (l : List (α × Value)) : Prop :=
  ∃ (es : Array MapEntry) (clock : Nat), w.heap[g]? = some (.map es clock) ∧ Ents K es.toList l ∧ (l.map (·.1)).Nodup

variable {K}
section
variable {w w' : World} {g : Nat} {l : List (α × Value)}
theorem MapIs.lt (h : MapIs K w g l) : g < w.heap.size := by
  obtain ⟨_, _, hb, _⟩ := h
  exact (Array.getElem?_eq_some_iff.1 hb).1
theorem MapIs.of_block (h : MapIs K w g l) (e : w'.heap[g]? = w.heap[g]?) : MapIs K w' g l := by
  obtain ⟨es, c, hb, r⟩ := h
  exact ⟨es, c, e.trans hb, r⟩
theorem MapIs.keep {F : Nat → Prop} (h : MapIs K w g l) (k : Keep F w w') (hf : ¬ F g) : MapIs K w' g l := h.of_block (k.block g h.lt hf)
theorem MapIs.grown {row : Option Nat} (h : MapIs K w g l) (k : w.grownBy w' row) (hf : some g ≠ row) : MapIs K w' g l := h.of_block (k.block g h.lt hf)
theorem MapIs.alloc (h : MapIs K w g l) (o : Obj) : MapIs K (w.alloc o) g l := h.of_block (Below.heap_alloc w o g h.lt)
theorem MapIs.drew (h : MapIs K w g l) : MapIs K w.drew g l := h
theorem MapIs.drewN (h : MapIs K w g l) (n : Nat) : MapIs K (w.drewN n) g l := h
theorem MapIs.setCell (h : MapIs K w g l) {p : Addr} (hp : g ≠ p.block) (u : Value) : MapIs K (w.setCell p u) g l := h.of_block (Below.heap_setCell w p u g hp)
theorem MapIs.made (w : World) : MapIs K (w.alloc (.map #[] 0)) w.heap.size [] := ⟨#[], 0, heap_alloc_new w _, rfl, List.nodup_nil⟩
theorem MapIs.ne_row {b : Nat} {t : TypeId} {n : Nat} {f : Nat → Value} (h : MapIs K w g l) (hr : w.rowIs b t n f) : g ≠ b := by
  rintro rfl
  obtain ⟨_, _, hb, _⟩ := h
  obtain ⟨_, hc, _⟩ := hr
  rw [hb] at hc; cases hc
theorem MapIs.ne_blk {b : Nat} {t : TypeId} {cs : Array Value} (h : MapIs K w g l) (hr : Blk w b t cs) : g ≠ b := by
  rintro rfl
  obtain ⟨_, _, hb, _⟩ := h
  unfold Blk at hr
  rw [hb] at hr; cases hr
theorem MapIs.ne_own {base : Nat} {e : TypeId} {size : Nat} {v : Value} {n : Nat} {xs : List Value} (h : MapIs K w g l) (ho : Owns w base e size v n xs) : v.ownBlock ≠ some g := by
  intro hg
  obtain ⟨_, _, cur, hc⟩ := ho.block hg
  obtain ⟨_, _, hb, _⟩ := h
  rw [hb] at hc; cases hc
end

section
variable {P : Program} {w : World} {g : Nat} {l : List (α × Value)}
theorem MapIs.lookup {t k e : TypeId} (h : MapIs K w g l) (ht : P.underlying t = some (.map k e)) (hk : P.underlying k = some K.kd) (a : α) {z : Value} (hz : (zeroValue e).run P w = .ok z w) (ok : Bool) :
    (Instr.lookup t (.map (some g)) (K.v a) ok).run P w = .ok (if ok then .tuple #[(getE l a).getD z, .bool (getE l a).isSome] else (getE l a).getD z) w := by
  obtain ⟨es, c, hb, hE, _⟩ := h
  obtain ⟨h1, h2⟩ := findNow_get K hE a 0
  have hp := K.plain P k w es.isEmpty a hk
  cases hg : getE l a with
  | none =>
    have hf := h1 hg
    simp [Instr.lookup, run_underlying ht, run_underlying hk, MapKept.run_getObj_map hb, hp, Instr.findKey, hf, hz]
  | some v =>
    obtain ⟨j, e', _, _, hf, _⟩ := h2 v hg
    simp [Instr.lookup, run_underlying ht, run_underlying hk, MapKept.run_getObj_map hb, hp, Instr.findKey, hf]

theorem MapIs.update {t k e : TypeId} (h : MapIs K w g l) (ht : P.underlying t = some (.map k e)) (hk : P.underlying k = some K.kd) (a : α) (v : Value) :
    ∃ w', (Instr.mapUpdate t (.map (some g)) (K.v a) v).run P w = .ok () w' ∧ MapIs K w' g (setE l a v) ∧ w.grownBy w' (some g) ∧ w'.heap.size = w.heap.size := by
  have hlt := h.lt
  obtain ⟨es, c, hb, hE, hnd⟩ := h
  obtain ⟨h1, h2⟩ := findNow_get K hE a 0
  have hp := K.plain P k w false a hk
  have nd : ((setE l a v).map (·.1)).Nodup := by
    rw [setE_keys]
    by_cases hm : a ∈ l.map (·.1)
    · rw [if_pos hm]; exact hnd
    · rw [if_neg hm, List.nodup_append]
      refine ⟨hnd, by simp, fun x hx y hy => ?_⟩
      rw [List.mem_singleton.1 hy]
      exact fun e => hm (e ▸ hx)
  have grown : ∀ o : Obj, w.grownBy { w with heap := w.heap.setIfInBounds g o } (some g) := fun o =>
    ⟨rfl, rfl, rfl, by simp, fun x _ hx => by
      show (w.heap.setIfInBounds g o)[x]? = _
      rw [Array.getElem?_setIfInBounds, if_neg (fun e => hx (by rw [e]))]⟩
  cases hg : getE l a with
  | none =>
    have hf := h1 hg
    refine ⟨{ w with heap := w.heap.setIfInBounds g (.map (es.push { key := K.v a, val := v, born := c }) (c + 1)) }, ?_, ⟨es.push { key := K.v a, val := v, born := c }, c + 1, ?_, ?_, nd⟩, grown _, by simp⟩
    · simp [Instr.mapUpdate, run_underlying ht, run_underlying hk, MapKept.run_getObj_map hb, MapKept.run_setObj_map _ hb, hp, Instr.findKey, hf]
    · show (w.heap.setIfInBounds g _)[g]? = _
      rw [Array.getElem?_setIfInBounds, if_pos rfl, if_pos hlt]
    · have hs : ∀ l : List (α × Value), getE l a = none → setE l a v = l ++ [(a, v)] := by
        intro l
        induction l with
        | nil => intro _; rfl
        | cons x l ih =>
          intro hn
          rw [getE_cons] at hn
          by_cases e : a = x.1
          · rw [if_pos e] at hn; cases hn
          · rw [if_neg e] at hn
            unfold setE
            rw [if_neg e, ih hn]; rfl
      rw [hs l hg]
      unfold Ents at *
      simp only [Array.toList_push, List.map_append, hE, List.map_cons, List.map_nil]
  | some u =>
    obtain ⟨j, e', k1, k2, hf, k4⟩ := h2 u hg
    rw [Nat.zero_add] at hf
    have k1' : es[j]? = some e' := by rw [← Array.getElem?_toList]; exact k1
    refine ⟨{ w with heap := w.heap.setIfInBounds g (.map (es.modify j fun e => { e with key := K.v a, val := v }) c) }, ?_, ⟨es.modify j fun e => { e with key := K.v a, val := v }, c, ?_, ?_, nd⟩, grown _, by simp⟩
    · simp [Instr.mapUpdate, run_underlying ht, run_underlying hk, MapKept.run_getObj_map hb, MapKept.run_setObj_map _ hb, hp, Instr.findKey, hf, Instr.keyThatStays, k1', k2, K.bits]
    · show (w.heap.setIfInBounds g _)[g]? = _
      rw [Array.getElem?_setIfInBounds, if_pos rfl, if_pos hlt]
    · rw [Array.toList_modify]; exact k4 v

/-- At the operation. -/
theorem wpList_mapUpdate_is {ops : Array Oper} {rest : List Oper} {o : Oper} {a : Act} {Q : Exit → Act → World → Prop} (hgd : o.guard = none) (m x v : Operand) (t : TypeId) (hop : o.op = .mapUpdate t m x v ∨ o.op = .insert t m x v)
    (k e : TypeId) (ht : P.underlying t = some (.map k e)) (hk : P.underlying k = some K.kd) (g : Nat) (hm : a.eval m = .map (some g)) (l : List (α × Value)) (h : MapIs K w g l) (ka : α) (hx : a.eval x = K.v ka)
    (hK : ∀ w', MapIs K w' g (setE l ka (a.eval v)) → w.grownBy w' (some g) → w'.heap.size = w.heap.size → wpList P ops Q rest (a.put o.dst undef) w') : wpList P ops Q (o :: rest) a w := by
  refine wpList_plain hgd fun K' hK' => ?_
  obtain ⟨w', hrun, r1, r2, r3⟩ := h.update (P := P) ht hk ka (a.eval v)
  unfold Oper.wp
  rcases hop with hop | hop <;>
  · simp [execOp, hop, hm, hx, hrun, Result.andThen]
    exact hK' _ _ (hK w' r1 r2 r3)
end
end
end Go.Proofs.YtmhhnmbedlhflaaDoor
