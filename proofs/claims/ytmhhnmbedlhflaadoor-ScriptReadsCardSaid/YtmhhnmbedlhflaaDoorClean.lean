/- An act without what does not count. -/
import Derived.Test.YtmhhnmbedlhflaaDoorAct
import Derived.Test.YtmhhnmbedlhflaaDoorShelf
namespace Go.Proofs.YtmhhnmbedlhflaaDoor
open Go.RowKit

/-- An act's cells. -/
def aCells (k : Int) (N : Nat → Int) (T : Nat → Bs) (kv : Value) : Array Value :=
  #[.int .i64 k, .int .i64 (N 1), .int .i64 (N 2), .int .i64 (N 3), .int .i64 (N 4), .int .i64 (N 5), .string ⟨(T 6).toArray⟩, .string ⟨(T 7).toArray⟩, kv]
/-- A slice of these numbers, in a block from B on. -/
def Ints (w : World) (B : Nat) (v : Value) (ks : List Int) : Prop :=
  ∃ A c, v = .slice A ks.length c ∧ (0 < ks.length → ∃ b off, A = some ⟨b, off, none⟩ ∧ B ≤ b ∧ b < w.heap.size ∧ ∀ j n, ks[j]? = some n → w.cell? ⟨b, off + j, none⟩ = some (.int .i64 n))
section
variable {w w' : World} {B : Nat} {v : Value} {ks : List Int}
theorem Ints.nil (w : World) (B : Nat) : Ints w B (.slice none 0 0) [] := ⟨none, 0, rfl, fun h => absurd h (by simp)⟩
theorem Ints.below (h : Ints w B v ks) (hb : Below w.heap.size w w') : Ints w' B v ks := by
  obtain ⟨A, c, hv, h⟩ := h
  refine ⟨A, c, hv, fun h0 => ?_⟩
  obtain ⟨b, off, hA, hB, hlt, hc⟩ := h h0
  exact ⟨b, off, hA, hB, Nat.lt_of_lt_of_le hlt hb.size, fun j n hn => by rw [hb.cell hlt]; exact hc j n hn⟩
theorem Ints.mono {B' : Nat} (h : Ints w B v ks) (hb : B' ≤ B) : Ints w B' v ks := by
  obtain ⟨A, c, hv, h⟩ := h
  refine ⟨A, c, hv, fun h0 => ?_⟩
  obtain ⟨b, off, hA, hB, r⟩ := h h0
  exact ⟨b, off, hA, Nat.le_trans hb hB, r⟩
theorem Ints.of_block (h : Ints w B v ks) (hs : w.heap.size ≤ w'.heap.size) (hb : ∀ g, B ≤ g → g < w.heap.size → w'.heap[g]? = w.heap[g]?) : Ints w' B v ks := by
  obtain ⟨A, c, hv, h⟩ := h
  refine ⟨A, c, hv, fun h0 => ?_⟩
  obtain ⟨b, off, hA, hB, hlt, hc⟩ := h h0
  exact ⟨b, off, hA, hB, Nat.lt_of_lt_of_le hlt hs, fun j n hn => by rw [World.cell?_of_block (w := w) (hb b hB hlt)]; exact hc j n hn⟩
theorem Ints.of_owns {n : Nat} (h : Owns w B 3 1 v n (ks.map (Value.int .i64))) : Ints w B v ks := by
  have hn : n = ks.length := by have := h.1; simp at this; omega
  subst hn
  obtain ⟨A, c, hv⟩ := h.len
  refine ⟨A, c, hv, fun h0 => ?_⟩
  obtain ⟨g, off, cap, hv', hB, hg, _, hc, _⟩ := h.form h0
  rw [hv] at hv'
  injection hv' with e1 e2 e3
  exact ⟨g, off, e1, hB, hg, fun j n hn => hc j _ (by simp [hn])⟩
end
theorem acells_num (k : Int) (N : Nat → Int) (T : Nat → Bs) (kv : Value) {i : Nat} (h : 1 ≤ i ∧ i ≤ 5) : (aCells k N T kv)[i]? = some (.int .i64 (N i)) := by
  rcases (by omega : i = 1 ∨ i = 2 ∨ i = 3 ∨ i = 4 ∨ i = 5) with rfl | rfl | rfl | rfl | rfl <;> rfl
theorem acells_txt (k : Int) (N : Nat → Int) (T : Nat → Bs) (kv : Value) {i : Nat} (h : 6 ≤ i ∧ i ≤ 7) : (aCells k N T kv)[i]? = some (.string ⟨(T i).toArray⟩) := by
  rcases (by omega : i = 6 ∨ i = 7) with rfl | rfl <;> rfl
theorem acells_setN (k : Int) (N : Nat → Int) (T : Nat → Bs) (kv : Value) {i : Nat} (h : 1 ≤ i ∧ i ≤ 5) (n : Int) : (aCells k N T kv).setIfInBounds i (.int .i64 n) = aCells k (upd N i n) T kv := by
  rcases (by omega : i = 1 ∨ i = 2 ∨ i = 3 ∨ i = 4 ∨ i = 5) with rfl | rfl | rfl | rfl | rfl <;> rfl
theorem acells_setT (k : Int) (N : Nat → Int) (T : Nat → Bs) (kv : Value) {i : Nat} (h : 6 ≤ i ∧ i ≤ 7) (s : Bs) : (aCells k N T kv).setIfInBounds i (.string ⟨s.toArray⟩) = aCells k N (upd T i s) kv := by
  rcases (by omega : i = 6 ∨ i = 7) with rfl | rfl <;> rfl
theorem acells_setK (k : Int) (N : Nat → Int) (T : Nat → Bs) (kv kv' : Value) : (aCells k N T kv).setIfInBounds 8 kv' = aCells k N T kv' := rfl
theorem upd_sel {α : Type} (l : List Nat) (z : α) (f : Nat → α) {j i : Nat} (h : l[j]? = some i) : upd (sel (l.take j) z f) i (f i) = sel (l.take (j + 1)) z f := by
  funext x
  unfold upd sel
  rw [List.take_add_one, h]
  by_cases hx : x = i
  · subst hx; simp
  · simp [hx]
theorem sel_nil {α : Type} (z : α) (f : Nat → α) : sel [] z f = fun _ => z := by funext x; simp [sel]

theorem Ptrs.mono {w : World} {B B' : Nat} {t : TypeId} {p : Nat} {l : List Nat} {v : Value} (h : Ptrs w B t p l v) (hb : B' ≤ B) : Ptrs w B' t p l v := by
  rcases h with h | ⟨g, rfl, hg, hk⟩
  · exact .inl h
  · exact .inr ⟨g, rfl, Nat.le_trans hb hg, hk⟩
theorem acells_size (k : Int) (N : Nat → Int) (T : Nat → Bs) (kv : Value) : (aCells k N T kv).size = 9 := rfl
theorem acells_one (k : Int) (N : Nat → Int) (T : Nat → Bs) (A : Option Addr) (n c : Nat) : (aCells k N T (.slice A n c)).all (·.oneCell') = true := by
  simp [aCells, Value.oneCell']
theorem keep_row {B g : Nat} {w wr : World} (h : Below B w wr) (hs : B ≤ g) (O : Array Value) : Below B w (wr.setRow g O) :=
  ⟨h.os, h.tape, h.output, by rw [setRow_size]; exact h.size, fun x hx => by rw [setRow_other _ _ _ _ (by omega)]; exact h.block x hx⟩
theorem Tryd.size24 : (Tryd.prog.info? 24).map (·.size) = some 9 := by kernel_rfl
theorem clone_run (kv : Value) (ks : List Int) (w : World) (hI : Ints w 0 kv ks) (hl : ks.length ≤ 1000000) :
    Calls Tryd.prog 24 #[kv] w fun e w' => ∃ A c, e = .returned (.slice A ks.length c) ∧ Owns w' w.heap.size 3 1 (.slice A ks.length c) ks.length (ks.map (Value.int .i64)) ∧ Below w.heap.size w w' := by
  obtain ⟨A, c, rfl, h⟩ := hI
  by_cases h0 : 0 < ks.length
  · obtain ⟨b, off, rfl, _, hb, hc⟩ := h h0
    refine (Tryd.slices_Clone_int b off ks.length c ks w (Nat.le_refl _) (by omega) (fun j hj => hc j _ (by rw [List.getElem?_eq_getElem hj]; simp [List.getD, hj]))).mono ?_
    rintro e w' ⟨v', rfl, ho, _, hb⟩
    rw [List.take_length] at ho
    have ho' := Owns.of_row ho
    obtain ⟨A', c', hv⟩ := ho'.len
    subst hv
    exact ⟨_, _, rfl, ho', hb⟩
  · have hn : ks = [] := List.eq_nil_of_length_eq_zero (by omega)
    subst hn
    cases A with
    | none =>
      refine (Tryd.slices_Clone_int_nil 0 c w).mono ?_
      rintro e w' ⟨rfl, rfl⟩
      exact ⟨_, _, rfl, Owns.nil _ _ _ _, Below.refl _ _⟩
    | some a =>
      refine (Tryd.slices_Clone_int_zero a c w).mono ?_
      rintro e w' ⟨v', rfl, ho, _, hb⟩
      have ho' := Owns.of_row ho
      obtain ⟨A', c', hv⟩ := ho'.len
      subst hv
      exact ⟨A', c', rfl, ho', hb⟩
theorem Ptrs.setCell {w : World} {B : Nat} {t : TypeId} {p : Nat} {l : List Nat} {v : Value} {q i : Nat} {cs : Array Value} (h : Ptrs w B t p l v) (hb : Blk w q 24 cs) (ht : t ≠ 24) (u : Value) : Ptrs (w.setCell ⟨q, i, none⟩ u) B t p l v := by
  rcases h with h | ⟨g, rfl, hg, hk⟩
  · exact .inl h
  · exact .inr ⟨g, rfl, hg, hk.far (Blk.ne_ hk hb ht) u⟩
theorem Ptrs.of_below {w w' : World} {B : Nat} {t : TypeId} {p : Nat} {l : List Nat} {v : Value} (h : Ptrs w B t p l v) (hb : Below w.heap.size w w') : Ptrs w' B t p l v := by
  rcases h with h | ⟨g, rfl, hg, hk⟩
  · exact .inl h
  · exact .inr ⟨g, rfl, hg, hk.of_block (hb.block g hk.lt)⟩
theorem Blk.below {w w' : World} {g : Nat} {t : TypeId} {cs : Array Value} (h : Blk w g t cs) (hb : Below w.heap.size w w') : Blk w' g t cs := h.of_block (hb.block g h.lt)
set_option maxHeartbeats 2000000 in
set_option maxRecDepth 100000 in
theorem clean_run (k : Int) (N : Nat → Int) (T : Nat → Bs) (kv : Value) (ks : List Int) (w : World) (hI : Ints w 0 kv ks) (hl : ks.length ≤ 1000000) :
    Calls Tryd.prog 8 #[.agg (aCells k N T kv)] w fun e w' => ∃ kv', e = .returned (.agg (aCells k (sel (places k) 0 N) (sel (txts k) [] T) kv')) ∧ Ints w' w.heap.size kv' (keepOf k ks) ∧ Below w.heap.size w w' := by
  have HI := Lib.hid hI
  clear hI
  have hc0 : (aCells k N T kv)[0]? = some (.int .i64 k) := rfl
  have hc8 : (aCells k N T kv)[8]? = some kv := rfl
  generalize hcs : aCells k N T kv = cs at hc0 hc8
  have HC := Lib.hid hcs
  clear hcs
  go_enter Tryd.func8, Tryd.ntmps8
  go_wp2_with fail
  refine (parts_run w.heap.size k _ ((((Blk.new w 24 cs).alloc _).alloc _).cell 0 |>.trans hc0)).mono ?_
  rintro e w1 ⟨v1, rfl, hp1, hb1⟩
  have b1 := Blk.of_block (((Blk.new w 24 cs).alloc _).alloc _) (hb1.block w.heap.size (by simp; omega))
  have b2 := Blk.of_block ((blk_at (w.alloc _) 24 _ (w.heap.size + 1) (by simp)).alloc _) (hb1.block (w.heap.size + 1) (by simp))
  have b3 := Blk.of_block (blk_at ((w.alloc _).alloc _) 24 _ (w.heap.size + 2) (by simp)) (hb1.block (w.heap.size + 2) (by simp))
  have hB := Below.trans ((((Below.refl w.heap.size w).alloc (Nat.le_refl _) _).alloc (by simp) _).alloc (by simp; omega) _) (hb1.mono (by simp; omega))
  have hs1 := hb1.size
  simp only [World.size_alloc] at hp1 hs1
  have P1 := Lib.hid hp1
  have B1 := Lib.hid b1
  have B2 := Lib.hid b2
  have B3 := Lib.hid b3
  have HB := Lib.hid hB
  clear hp1 hb1 b1 b2 b3 hB
  go_wp2_with fail
  refine (parts_run (w.heap.size + 1 + 1) k w1 (B3.out.cell 0)).mono ?_
  rintro e w2 ⟨v2, rfl, hp2, hb2⟩
  obtain ⟨A2, rfl⟩ := hp2.len
  have P2 := Lib.hid hp2
  have P1' := Lib.hid (P1.out.of_below hb2)
  have B1' := Lib.hid (B1.out.below hb2)
  have B2' := Lib.hid (B2.out.below hb2)
  have B3' := Lib.hid (B3.out.below hb2)
  have HB2 := Lib.hid (HB.out.trans (hb2.mono HB.out.size))
  have hs2 := hb2.size
  clear hp2 hb2 P1 B1 B2 B3 HB
  have hnl := places_len k
  have hnl' : ((places k).length : Int) ≤ 4 := by omega
  go_wp2_with fail
  go_loopg [16] (places k).length (fun gk ii wr => ∃ j : Nat, j ≤ (places k).length ∧ gk = (places k).length - j ∧ ii = .int .i64 (j : Int) ∧ Blk wr w.heap.size 24 cs ∧ Blk wr (w.heap.size + 1) 24 (aCells 0 (fun _ => 0) (fun _ => []) (.slice none 0 0)) ∧
    Blk wr (w.heap.size + 1 + 1) 24 (aCells k (sel ((places k).take j) 0 N) (fun _ => []) (.slice none 0 0)) ∧ Ptrs wr (w.heap.size + 1 + 1 + 1) 52 w.heap.size (places k) v1 ∧ Ptrs wr w1.heap.size 52 (w.heap.size + 1 + 1) (places k) (.slice A2 (places k).length (places k).length) ∧ Below w.heap.size w wr ∧ w1.heap.size ≤ wr.heap.size)
  case atStart => exact ⟨0, Nat.zero_le _, by omega, rfl, B1'.out, B2'.out, by rw [List.take_zero, sel_nil]; exact B3'.out, P1'.out, P2.out, HB2.out, hs2⟩
  case round =>
    obtain ⟨j, hjn, rfl, rfl, c1, c2, c3, q1, q2, hb, hsz⟩ := hrel
    by_cases hlt : j < (places k).length
    · obtain ⟨i, hi⟩ : ∃ i, (places k)[j]? = some i := ⟨_, List.getElem?_eq_getElem hlt⟩
      have hlt' : (j : Int) < ((places k).length : Int) := by omega
      have hpi := places_in (List.mem_of_getElem? hi)
      obtain ⟨g1, rfl, _, _, x1⟩ := q1.get hi
      obtain ⟨g2, e2, _, _, x2⟩ := q2.get hi
      injection e2 with e2 _ _
      subst e2
      have x3 : wr.cell? ⟨w.heap.size, i, none⟩ = some (.int .i64 (N i)) := by rw [c1.cell, ← HC.out]; exact acells_num k N T kv hpi
      have x4 := (c3.cell i).trans (acells_num _ _ _ _ hpi)
      have x5 := c3.frozen i
      have D1 := Lib.hid (c1.far (p := ⟨w.heap.size + 1 + 1, i, none⟩) (by show w.heap.size ≠ w.heap.size + 1 + 1; omega) (.int .i64 (N i)))
      have D2 := Lib.hid (c2.far (p := ⟨w.heap.size + 1 + 1, i, none⟩) (by show w.heap.size + 1 ≠ w.heap.size + 1 + 1; omega) (.int .i64 (N i)))
      have D3 := Lib.hid (c3.set_ i (.int .i64 (N i)))
      have D4 := Lib.hid (q1.setCell (i := i) c3 (by decide) (.int .i64 (N i)))
      have D5 := Lib.hid (q2.setCell (i := i) c3 (by decide) (.int .i64 (N i)))
      have D6 := Lib.hid (hb.setCell (p := ⟨w.heap.size + 1 + 1, i, none⟩) (by simp; omega) (.int .i64 (N i)))
      have HI' := Lib.hid hi
      have HP' := Lib.hid hpi
      clear c1 c2 c3 q1 q2 hb hi hpi
      go_wp2_with fail
      go_roundg ((places k).length - (j + 1))
      case measure => omega
      case rel =>
        refine ⟨j + 1, by omega, rfl, by go_num, D1.out, D2.out, ?_, D4.out, D5.out, D6.out, by simp; omega⟩
        have := D3.out
        rw [acells_setN _ _ _ _ HP'.out, upd_sel _ _ _ HI'.out] at this
        exact this
    · obtain rfl : (places k).length = j := by omega
      rw [List.take_length] at c3
      have C1 := Lib.hid c1
      have C2 := Lib.hid c2
      have C3 := Lib.hid c3
      have HB3 := Lib.hid hb
      clear c1 c2 c3 q1 q2 hb
      go_wp2_with fail
      refine (texts_run w.heap.size k wr ((C1.out.cell 0).trans hc0)).mono ?_
      rintro e w3 ⟨v3, rfl, hp3, hb3⟩
      have P3 := Lib.hid hp3
      have F1 := Lib.hid (C1.out.below hb3)
      have F2 := Lib.hid (C2.out.below hb3)
      have F3 := Lib.hid (C3.out.below hb3)
      have HB4 := Lib.hid (HB3.out.trans (hb3.mono HB3.out.size))
      have hs3 := hb3.size
      clear hp3 hb3 C1 C2 C3 HB3
      go_wp2_with fail
      refine (texts_run (w.heap.size + 1 + 1) k w3 (F3.out.cell 0)).mono ?_
      rintro e w4 ⟨v4, rfl, hp4, hb4⟩
      obtain ⟨A4, rfl⟩ := hp4.len
      have P4 := Lib.hid hp4
      have P3' := Lib.hid (P3.out.of_below hb4)
      have F1' := Lib.hid (F1.out.below hb4)
      have F2' := Lib.hid (F2.out.below hb4)
      have F3' := Lib.hid (F3.out.below hb4)
      have HB5 := Lib.hid (HB4.out.trans (hb4.mono HB4.out.size))
      have hs4 := hb4.size
      clear hp4 hb4 P3 F1 F2 F3 HB4
      have htl := txts_len k
      have htl' : ((txts k).length : Int) ≤ 2 := by omega
      go_wp2_with fail
      go_loopg [33] (txts k).length (fun gk ii wr => ∃ j : Nat, j ≤ (txts k).length ∧ gk = (txts k).length - j ∧ ii = .int .i64 (j : Int) ∧ Blk wr w.heap.size 24 cs ∧ Blk wr (w.heap.size + 1) 24 (aCells 0 (fun _ => 0) (fun _ => []) (.slice none 0 0)) ∧
        Blk wr (w.heap.size + 1 + 1) 24 (aCells k (sel (places k) 0 N) (sel ((txts k).take j) [] T) (.slice none 0 0)) ∧ Ptrs wr 0 56 w.heap.size (txts k) v3 ∧ Ptrs wr 0 56 (w.heap.size + 1 + 1) (txts k) (.slice A4 (txts k).length (txts k).length) ∧ Below w.heap.size w wr ∧ w.heap.size + 1 + 1 + 1 ≤ wr.heap.size)
      case atStart => exact ⟨0, Nat.zero_le _, by omega, rfl, F1'.out, F2'.out, by rw [List.take_zero, sel_nil]; exact F3'.out, P3'.out.mono (Nat.zero_le _), P4.out.mono (Nat.zero_le _), HB5.out, by omega⟩
      case round =>
        obtain ⟨j, hjn, rfl, rfl, c1, c2, c3, q1, q2, hb, hsz⟩ := hrel
        by_cases hlt : j < (txts k).length
        · obtain ⟨i, hi⟩ : ∃ i, (txts k)[j]? = some i := ⟨_, List.getElem?_eq_getElem hlt⟩
          have hlt' : (j : Int) < ((txts k).length : Int) := by omega
          have hpi := txts_in (List.mem_of_getElem? hi)
          obtain ⟨g1, rfl, _, _, x1⟩ := q1.get hi
          obtain ⟨g2, e2, _, _, x2⟩ := q2.get hi
          injection e2 with e2 _ _
          subst e2
          have x3 : wr.cell? ⟨w.heap.size, i, none⟩ = some (.string ⟨(T i).toArray⟩) := by rw [c1.cell, ← HC.out]; exact acells_txt k N T kv hpi
          have x4 := (c3.cell i).trans (acells_txt _ _ _ _ hpi)
          have x5 := c3.frozen i
          have D1 := Lib.hid (c1.far (p := ⟨w.heap.size + 1 + 1, i, none⟩) (by show w.heap.size ≠ w.heap.size + 1 + 1; omega) (.string ⟨(T i).toArray⟩))
          have D2 := Lib.hid (c2.far (p := ⟨w.heap.size + 1 + 1, i, none⟩) (by show w.heap.size + 1 ≠ w.heap.size + 1 + 1; omega) (.string ⟨(T i).toArray⟩))
          have D3 := Lib.hid (c3.set_ i (.string ⟨(T i).toArray⟩))
          have D4 := Lib.hid (q1.setCell (i := i) c3 (by decide) (.string ⟨(T i).toArray⟩))
          have D5 := Lib.hid (q2.setCell (i := i) c3 (by decide) (.string ⟨(T i).toArray⟩))
          have D6 := Lib.hid (hb.setCell (p := ⟨w.heap.size + 1 + 1, i, none⟩) (by simp; omega) (.string ⟨(T i).toArray⟩))
          have HI' := Lib.hid hi
          have HP' := Lib.hid hpi
          clear c1 c2 c3 q1 q2 hb hi hpi
          go_wp2_with fail
          go_roundg ((txts k).length - (j + 1))
          case measure => omega
          case rel =>
            refine ⟨j + 1, by omega, rfl, by go_num, D1.out, D2.out, ?_, D4.out, D5.out, D6.out, by simp; omega⟩
            have := D3.out
            rw [acells_setT _ _ _ _ HP'.out, upd_sel _ _ _ HI'.out] at this
            exact this
        · obtain rfl : (txts k).length = j := by omega
          rw [List.take_length] at c3
          have C1 := Lib.hid c1
          have C2 := Lib.hid c2
          have C3 := Lib.hid c3
          have HB6 := Lib.hid hb
          have y0 : wr.cell? ⟨w.heap.size, 0, none⟩ = some (.int .i64 k) := (c1.cell 0).trans hc0
          clear c1 c2 c3 q1 q2 hb
          generalize hO : aCells k (sel (places k) 0 N) (sel (txts k) [] T) (.slice none 0 0) = O at C3
          generalize hZ : aCells 0 (fun _ => 0) (fun _ => []) (.slice none 0 0) = Z at C2
          have HO := Lib.hid hO
          have HZ := Lib.hid hZ
          clear hO hZ
          have hzs : Z.size = 9 := by rw [← HZ.out]; rfl
          by_cases h12 : k = 12
          · have y8 : wr.cell? ⟨w.heap.size, 8, none⟩ = some kv := (C1.out.cell 8).trans hc8
            have hI1 : Ints wr 0 kv ks := HI.out.below HB6.out
            have HI1 := Lib.hid hI1
            have hs6 := HB6.out.size
            subst h12
            clear hI1
            go_wp2_with fail
            refine (clone_run kv ks wr HI1.out hl).mono ?_
            rintro e w5 ⟨A5, c5, rfl, ho5, hb5⟩
            have C3' := C3.out.below hb5
            have C2' := C2.out.below hb5
            have z1 : w5.cell? ⟨w.heap.size + 1 + 1, 8, none⟩ = some (.slice none 0 0) := by rw [C3'.cell, ← HO.out]; rfl
            have z2 := C3'.frozen 8
            have E3 := C3'.set_ 8 (.slice A5 ks.length c5)
            have E2 := C2'.far (p := ⟨w.heap.size + 1 + 1, 8, none⟩) (by show w.heap.size + 1 ≠ w.heap.size + 1 + 1; omega) (.slice A5 ks.length c5)
            have hO' : O.setIfInBounds 8 (.slice A5 ks.length c5) = aCells 12 (sel (places 12) 0 N) (sel (txts 12) [] T) (.slice A5 ks.length c5) := by rw [← HO.out]; rfl
            have hos : (O.setIfInBounds 8 (.slice A5 ks.length c5)).size = 9 := by rw [hO']; rfl
            have hone : (O.setIfInBounds 8 (.slice A5 ks.length c5)).all (·.oneCell') = true := by rw [hO']; exact acells_one _ _ _ _ _ _
            have HO5 := Lib.hid (ho5.setCell (p := ⟨w.heap.size + 1 + 1, 8, none⟩) (by intro e; have := (ho5.block e).1; simp at this; omega) (.slice A5 ks.length c5))
            have HB7 := Lib.hid (((HB6.out.trans (hb5.mono hs6))).setCell (p := ⟨w.heap.size + 1 + 1, 8, none⟩) (by simp; omega) (.slice A5 ks.length c5))
            have HS := Lib.hid (And.intro hzs (And.intro hos hone))
            have HOe := Lib.hid hO'
            have HE3 := Lib.hid E3
            have HE2 := Lib.hid E2
            have hs5 := hb5.size
            clear hzs hos hone hO' E3 E2 C3' C2' ho5 hb5
            generalize hO2 : O.setIfInBounds 8 (.slice A5 ks.length c5) = O2 at HS HOe HE3
            have HO2 := Lib.hid hO2
            clear hO2
            go_wp2_with (first | (refine wpList_load_row rfl 24 _ rfl (w.heap.size + 1 + 1) rfl 24 O2 (0, 0) _ HE3.out Tryd.underlying24 rfl (by rw [HS.out.2.1]; exact Tryd.size24) ?_) | (refine wpList_store_row rfl 24 _ _ rfl (w.heap.size + 1) O2 rfl rfl 24 Z HE2.out (by rw [HS.out.2.1]; exact Tryd.size24) (by rw [HS.out.1, HS.out.2.1]) HS.out.2.2 ?_))
            refine bodyPost_ret (results_cell_row rfl _ _ (w.heap.size + 1) 24 O2 (0, 0) _ rfl (setRow_heap _ _ Z O2 24 (0, 0) HE2.out) Tryd.underlying24 rfl (by rw [HS.out.2.1]; exact Tryd.size24)) rfl ?_
            refine ⟨(.slice A5 ks.length c5), by rw [HOe.out], ?_, keep_row HB7.out (by omega) O2⟩
            show Ints _ _ (.slice A5 ks.length c5) ks
            refine Ints.mono (Ints.of_owns (HO5.out.of_block (fun g hg => setRow_other _ _ _ _ ?_))) hs6
            have := (HO5.out.block hg).1
            omega
          · have HN := Lib.hid h12
            have hos : O.size = 9 := by rw [← HO.out]; rfl
            have hone : O.all (·.oneCell') = true := by rw [← HO.out]; exact acells_one _ _ _ _ _ _
            have HS := Lib.hid (And.intro hzs (And.intro hos hone))
            clear hzs hos hone
            go_wp2_with (first | (refine wpList_load_row rfl 24 _ rfl (w.heap.size + 1 + 1) rfl 24 O (0, 0) _ C3.out Tryd.underlying24 rfl (by rw [HS.out.2.1]; exact Tryd.size24) ?_) | (refine wpList_store_row rfl 24 _ _ rfl (w.heap.size + 1) O rfl rfl 24 Z C2.out (by rw [HS.out.2.1]; exact Tryd.size24) (by rw [HS.out.1, HS.out.2.1]) HS.out.2.2 ?_))
            refine bodyPost_ret (results_cell_row rfl _ _ (w.heap.size + 1) 24 O (0, 0) _ rfl (setRow_heap wr _ Z O 24 (0, 0) C2.out) Tryd.underlying24 rfl (by rw [HS.out.2.1]; exact Tryd.size24)) rfl ?_
            refine ⟨.slice none 0 0, by rw [HO.out], ?_, keep_row HB6.out (by omega) O⟩
            unfold keepOf
            rw [if_neg HN.out]
            exact Ints.nil _ _
end Go.Proofs.YtmhhnmbedlhflaaDoor
