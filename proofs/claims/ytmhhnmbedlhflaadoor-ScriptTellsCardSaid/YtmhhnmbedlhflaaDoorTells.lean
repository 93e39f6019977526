/- What came of any act is told as the document says: the walk of ScriptTells. -/
import Derived.Test.YtmhhnmbedlhflaaDoorOneA
import Derived.Deep.RegionHeld3
namespace Go.Proofs.YtmhhnmbedlhflaaDoor
open Go.RowKit

theorem i64_and24 (n : Int) : bits .and .i64 n 16777215 = n % 16777216 := by
  have h127 : (BitVec.ofInt 64 16777215).toNat = 2 ^ 24 - 1 := by decide
  have key : (BitVec.ofInt 64 n &&& BitVec.ofInt 64 16777215).toNat = (n % ((2 ^ 64 : Nat) : Int)).toNat % 2 ^ 24 := by
    rw [BitVec.toNat_and, BitVec.toNat_ofInt, h127, Nat.and_two_pow_sub_one_eq_mod]
  show IntKind.i64.wrap ((BitVec.ofInt 64 n &&& BitVec.ofInt 64 16777215).toNat : Nat) = n % 16777216
  rw [key, IntKind.wrap_i64]
  omega
theorem i64_and8 (n : Int) : bits .and .i64 n 255 = n % 256 := by
  have h127 : (BitVec.ofInt 64 255).toNat = 2 ^ 8 - 1 := by decide
  have key : (BitVec.ofInt 64 n &&& BitVec.ofInt 64 255).toNat = (n % ((2 ^ 64 : Nat) : Int)).toNat % 2 ^ 8 := by
    rw [BitVec.toNat_and, BitVec.toNat_ofInt, h127, Nat.and_two_pow_sub_one_eq_mod]
  show IntKind.i64.wrap ((BitVec.ofInt 64 n &&& BitVec.ofInt 64 255).toNat : Nat) = n % 256
  rw [key, IntKind.wrap_i64]
  omega
def tCellsI (code n : Int) (d : Bs) (files : Int) : Array Value := (.int .i64 code :: .int .i64 n :: (bcells d ++ [.int .i64 files])).toArray
theorem tcells_set0 (code n : Int) (d : Bs) (files x : Int) : (tCellsI code n d files).setIfInBounds 0 (.int .i64 x) = tCellsI x n d files := by simp [tCellsI]
theorem tcells_set1 (code n : Int) (d : Bs) (files x : Int) : (tCellsI code n d files).setIfInBounds 1 (.int .i64 x) = tCellsI code x d files := by simp [tCellsI]
theorem tcells_set34 (code n : Int) (d : Bs) (files x : Int) (hd : d.length = 32) : (tCellsI code n d files).setIfInBounds 34 (.int .i64 x) = tCellsI code n d x := by
  simp [tCellsI, List.set_append, bcells, hd]
/-- Told's block, what was there, MaxLen. -/
structure Rt (w W : World) (C : Array Value) (m : Int) : Prop where
  blk : Blk W w.heap.size 42 C
  below : Below w.heap.size w W
  max : W.cell? ⟨0, 0, none⟩ = some (.int .i64 m)
theorem Rt.keep {w W W' : World} {C : Array Value} {m : Int} (h : Rt w W C m) (hb : Below W.heap.size W W') : Rt w W' C m :=
  ⟨h.blk.below hb, h.below.trans (hb.mono h.below.size), (hb.cell (World.block_lt_of_cell? W _ h.max)).trans h.max⟩
theorem Rt.drew {w W : World} {C : Array Value} {m : Int} (h : Rt w W C m) : Rt w W.drew C m := ⟨h.blk, h.below.drew, h.max⟩
theorem rt_S {w W : World} {code n files : Nat} {d : Bs} {m : Int} (hd : d.length = 32) (h : Rt w W (tCells code n d files) m) :
    W.cell? ⟨w.heap.size, 0, none⟩ = some (.int .i64 (code : Int)) ∧ W.cell? ⟨w.heap.size, 1, none⟩ = some (.int .i64 (n : Int)) ∧ W.cell? ⟨w.heap.size, 34, none⟩ = some (.int .i64 (files : Int)) ∧ W.rangeAt w.heap.size 0 (tCells code n d files).toList ∧ Rt w W (tCells code n d files) m := by
  refine ⟨by rw [h.blk.cell]; simp [tCells], by rw [h.blk.cell]; simp [tCells], by rw [h.blk.cell]; simp [tCells, bcells, hd], ?_, h⟩
  have := World.rangeAt_of_block h.blk 0 35
  rw [show (tCells code n d files).extract 0 (0 + 35) = tCells code n d files from by
    rw [show 0 + 35 = (tCells code n d files).size by simp [tCells, bcells, hd]]; exact Array.extract_size] at this
  exact this
theorem Tryd.size42 : (Tryd.prog.info? 42).map (·.size) = some 35 := by kernel_rfl
set_option maxHeartbeats 4000000 in
set_option maxRecDepth 100000 in
theorem tells_run (code n : Int) (d : Bs) (files : Int) (hd : d.length = 32) (m : Int) (w : World) (hm : w.cell? ⟨0, 0, none⟩ = some (.int .i64 m)) :
    Calls Tryd.prog 5 #[.agg (tCellsI code n d files)] w fun e w' => e = .returned (.bool true) ∧ Below w.heap.size w w' := by
  have hh0 := World.block_lt_of_cell? w _ hm
  simp at hh0
  obtain ⟨c', hc'⟩ : ∃ c' : Nat, code % 256 = c' := ⟨(code % 256).toNat, by omega⟩
  obtain ⟨n', hn'⟩ : ∃ n' : Nat, n % 16777216 = n' := ⟨(n % 16777216).toNat, by omega⟩
  obtain ⟨f', hf'⟩ : ∃ f' : Nat, files % 16777216 = f' := ⟨(files % 16777216).toNat, by omega⟩
  have e1 := i64_and8 code
  have e2 := i64_and24 n
  have e3 := i64_and24 files
  rw [hc'] at e1
  rw [hn'] at e2
  rw [hf'] at e3
  have hlt : c' < 16777216 ∧ n' < 16777216 ∧ f' < 16777216 := by omega
  have HL := Lib.hid hlt
  have hd2 : ((tCellsI code n d files).extract 2 (2 + 32)).toList = bcells d := by simp [tCellsI, bcells, hd]
  have y1 := ((Blk.new w 42 (tCellsI code n d files)).cell 1).trans (show _ = some (.int .i64 n) by simp [tCellsI])
  have q1 := tcells_set1 code n d files (n' : Int)
  have y2 := ((Blk.new w 42 (tCellsI code n' d files)).cell 34).trans (show _ = some (.int .i64 files) by simp [tCellsI, bcells, hd])
  have q2 := tcells_set34 code n' d files (f' : Int) hd
  have y3 := ((Blk.new w 42 (tCellsI code n' d f')).cell 0).trans (show _ = some (.int .i64 code) by simp [tCellsI])
  have q3 := tcells_set0 code n' d f' (c' : Int)
  have f1 := (Blk.new w 42 (tCellsI code n d files)).frozen 1
  have f2 := (Blk.new w 42 (tCellsI code n' d files)).frozen 34
  have f3 := (Blk.new w 42 (tCellsI code n' d f')).frozen 0
  have hRt : Rt w (w.alloc (.cells (tCellsI c' n' d f') 42)) (tCells c' n' d f') m := by
    have hb : Below w.heap.size w (w.alloc (.cells (tCellsI c' n' d f') 42)) := (Below.refl w.heap.size w).alloc (Nat.le_refl _) _
    exact ⟨Blk.new w 42 _, hb, (hb.cell hh0).trans hm⟩
  have HR := Lib.hid hRt
  generalize tCellsI code n d files = T0 at *
  generalize tCellsI code n' d files = T1 at *
  generalize tCellsI code n' d f' = T2 at *
  generalize hT3 : tCellsI c' n' d f' = T3 at *
  clear hRt hc' hn' hf' hlt hm hd2
  have hT3' : tCells c' n' d f' = T3 := hT3
  have hrg : (w.alloc (.cells T3 42)).rangeAt w.heap.size 2 (bcells d) := by
    have := World.rangeAt_of_block (Blk.new w 42 T3) 2 32
    rw [← hT3, show ((tCellsI c' n' d f').extract 2 (2 + 32)).toList = bcells d by simp [tCellsI, bcells, hd]] at this
    rw [← hT3]
    exact this
  have HRG := Lib.hid hrg
  have HT3 := Lib.hid hT3'
  have HR2 := Lib.hid (show (Tryd.prog.info? 40).map (·.size) = some (bcells d).length by rw [bcells_len, hd]; exact Tryd.size40)
  obtain ⟨nz, hnz⟩ : ∃ nz, nz = !(d == List.replicate 32 0) := ⟨_, rfl⟩
  have hneq := ids_neq d hd
  rw [← hnz] at hneq
  have HNZ := Lib.hid hnz
  have SZ := Lib.hid (show (Tryd.prog.info? 42).map (·.size) = some T3.toList.length by rw [Tryd.size42, ← hT3', Array.length_toList]; simp [tCells, bcells, hd])
  have RS := Lib.hid (fun W (h : Rt w W (tCells c' n' d f') m) => rt_S hd h)
  have TL := Lib.hid (fun w => told_run c' n' d f' HL.out.1 HL.out.2.1 HL.out.2.2 hd w)
  have hRr := HR.out.drew
  rw [hT3'] at hRr
  have H0 := Lib.hid hRr
  rw [hT3'] at RS TL
  have hs := Lib.hid (fun w => reftold_run c' n' [] f' HL.out.1 HL.out.2.1 HL.out.2.2 (by simp) w)
  have hs2 := Lib.hid (fun w => reftold_run c' n' (hexB d) f' HL.out.1 HL.out.2.1 HL.out.2.2 (by rw [hexB_len, hd]; decide) w)
  have RX := Lib.hid (fun w => reftext_run d hd w)
  have O := Lib.hid (fun w hm => one_run m w hm)
  clear hnz hrg hT3 hT3' hRr
  go_enter Tryd.func5, Tryd.ntmps5
  go_upto_if 19 with (refine wpList_load_mid rfl 40 _ rfl w.heap.size 2 rfl (bcells d) (.array 32 5) HRG.out Tryd.underlying40 rfl HR2.out ?_)
  cases nz
  · have hI : toldI d = [] := by unfold toldI; rw [if_pos (by have := HNZ.out; simpa using this)]
    have hJ : toldW c' n' d f' = toldA c' ++ toldN n' ++ idW [] ++ toldF f' := by unfold toldW; rw [hI]; rfl
    rw [hJ] at TL
    generalize Lib.join (toldA c' ++ toldN n' ++ idW [] ++ toldF f') [32] = J at TL hs
    clear hI hJ
    go_wp2_with fail
    refine wp_region_held (S := fun W => Rt w W T3 m) (by kernel_rfl) ?_
    change wpAnyH _ _ _ _ _ _ _ _ (World.drew _)
    refine wpAnyH_take (i := 0) rfl (by kernel_rfl) (by kernel_rfl) (by kernel_rfl) (fun _ _ _ h => h) (yieldsIf_load_mid (by rfl) 42 _ rfl w.heap.size 0 rfl T3.toList _ (fun w hw => (RS.out _ hw).2.2.2.1) Tryd.underlying42 rfl SZ.out) H0.out ?_
    refine wpAnyH_take (i := 2) (v := ?_) rfl (by kernel_rfl) (by kernel_rfl) (by kernel_rfl) (fun _ _ _ h => h) (Or.inl ⟨by rfl, ?_⟩) H0.out ?_
    rotate_left
    · intro w hw; clear hw; go_simp; with_reducible rfl
    refine wpAnyH_take (i := 3) (v := ?_) rfl (by kernel_rfl) (by kernel_rfl) (by kernel_rfl) (fun _ _ _ h => h) (Or.inl ⟨by rfl, ?_⟩) H0.out ?_
    rotate_left
    · intro w hw; have z := (RS.out _ hw).1; clear hw; go_simp; with_reducible rfl
    refine wpAnyH_take (i := 4) (v := ?_) rfl (by kernel_rfl) (by kernel_rfl) (by kernel_rfl) (fun _ _ _ h => h) (Or.inl ⟨by rfl, ?_⟩) H0.out ?_
    rotate_left
    · intro w hw; clear hw; go_simp; with_reducible rfl
    refine wpAnyH_take (i := 5) (v := ?_) rfl (by kernel_rfl) (by kernel_rfl) (by kernel_rfl) (fun _ _ _ h => h) (Or.inl ⟨by rfl, ?_⟩) H0.out ?_
    rotate_left
    · intro w hw; have z := (RS.out _ hw).2.1; clear hw; go_simp; with_reducible rfl
    refine wpAnyH_take (i := 6) (v := ?_) rfl (by kernel_rfl) (by kernel_rfl) (by kernel_rfl) (fun _ _ _ h => h) (Or.inl ⟨by rfl, ?_⟩) H0.out ?_
    rotate_left
    · intro w hw; clear hw; go_simp; with_reducible rfl
    refine wpAnyH_take (i := 7) (v := ?_) rfl (by kernel_rfl) (by kernel_rfl) (by kernel_rfl) (fun _ _ _ h => h) (Or.inl ⟨by rfl, ?_⟩) H0.out ?_
    rotate_left
    · intro w hw; clear hw; go_simp; with_reducible rfl
    refine wpAnyH_take (i := 8) (v := ?_) rfl (by kernel_rfl) (by kernel_rfl) (by kernel_rfl) (fun _ _ _ h => h) (Or.inl ⟨by rfl, ?_⟩) H0.out ?_
    rotate_left
    · intro w hw; have z := (RS.out _ hw).2.2.1; clear hw; go_simp; with_reducible rfl
    refine wpAnyH_ready (rs := [1]) (by kernel_rfl) (by simp) ?_
    refine AllReadyH.cons rfl (fun K hK => ?_) (AllReadyH.nil)
    · go_simp
      go_wp2_with (go_at_call 16; refine (TL.out _).mono ?_; rintro e w7 ⟨rfl, hb7⟩)
      refine hK.out _ _ (Rt.keep H0.out hb7) (fun hHeld => ?_)
      clear hK K hHeld
      have H1 := Lib.hid (Rt.keep H0.out hb7)
      clear hb7
      refine wpAnyH_ready (rs := [9]) (by kernel_rfl) (by simp) ?_
      refine AllReadyH.cons rfl (fun K hK => ?_) (AllReadyH.nil)
      · go_simp
        go_wp2_with (go_at_call 17; refine (hs.out _).mono ?_; rintro e w8 ⟨rfl, rfl⟩)
        refine hK.out _ _ H1.out (fun hHeld => ?_)
        clear hK K hHeld
        refine wpAnyH_take (i := 10) (v := ?_) rfl (by kernel_rfl) (by kernel_rfl) (by kernel_rfl) (fun _ _ _ h => h) (Or.inl ⟨by rfl, ?_⟩) H1.out ?_
        rotate_left
        · intro w hw; clear hw; go_simp; with_reducible rfl
        refine wpAnyH_take (i := 11) (v := ?_) rfl (by kernel_rfl) (by kernel_rfl) (by kernel_rfl) (fun _ _ _ h => h) (Or.inl ⟨by rfl, ?_⟩) H1.out ?_
        rotate_left
        · intro w hw; clear hw; go_simp; with_reducible rfl
        refine wpAnyH_ready (rs := [12]) (by kernel_rfl) (by simp) ?_
        refine AllReadyH.cons rfl (fun K hK => ?_) (AllReadyH.nil)
        · go_simp
          go_wp2_with (go_at_call 11; refine (O.out _ (Rt.max H1.out)).mono ?_; rintro e w9 ⟨rfl, hb9⟩)
          refine hK.out _ _ (Rt.keep H1.out hb9) (fun hHeld => ?_)
          clear hK K hHeld
          have HE := Lib.hid (Rt.keep H1.out hb9)
          clear hb9
          refine wpAnyH_take (i := 13) (v := ?_) rfl (by kernel_rfl) (by kernel_rfl) (by kernel_rfl) (fun _ _ _ h => h) (Or.inl ⟨by rfl, ?_⟩) HE.out ?_
          rotate_left
          · intro w hw; clear hw; go_simp; with_reducible rfl
          refine wpAnyH_take (i := 14) (v := ?_) rfl (by kernel_rfl) (by kernel_rfl) (by kernel_rfl) (fun _ _ _ h => h) (Or.inl ⟨by rfl, ?_⟩) HE.out ?_
          rotate_left
          · intro w hw; clear hw; go_simp; with_reducible rfl
          refine wpAnyH_done (by kernel_rfl) ?_ _
          go_wp2_with fail
          go_ret
          exact ⟨rfl, HE.out.below⟩
  · have hI : toldI d = [[105, 100], hexB d] := by unfold toldI; rw [if_neg (fun e => by have := HNZ.out; rw [e] at this; simp at this)]
    have hJ : toldW c' n' d f' = toldA c' ++ toldN n' ++ idW (hexB d) ++ toldF f' := by
      have h0 : hexB d ≠ [] := fun e => by have := hexB_len d; rw [e, hd] at this; simp at this
      unfold toldW idW; rw [hI, if_neg h0]
    rw [hJ] at TL
    generalize Lib.join (toldA c' ++ toldN n' ++ idW (hexB d) ++ toldF f') [32] = J at TL hs2
    generalize hexB d = X at RX hs2
    clear hI hJ
    go_wp2_with (refine wpList_load_mid rfl 40 _ rfl w.heap.size 2 rfl (bcells d) (.array 32 5) HRG.out Tryd.underlying40 rfl HR2.out ?_)
    refine (RX.out _).mono ?_
    rintro e w5 ⟨rfl, hb5⟩
    have H5 := Lib.hid (Rt.keep (by have := HR.out; rw [HT3.out] at this; exact this) hb5)
    clear hb5
    go_wp2_with fail
    have H6 := Lib.hid H5.out.drew
    refine wp_region_held (S := fun W => Rt w W T3 m) (by kernel_rfl) ?_
    change wpAnyH _ _ _ _ _ _ _ _ (World.drew _)
    refine wpAnyH_take (i := 0) rfl (by kernel_rfl) (by kernel_rfl) (by kernel_rfl) (fun _ _ _ h => h) (yieldsIf_load_mid (by rfl) 42 _ rfl w.heap.size 0 rfl T3.toList _ (fun w hw => (RS.out _ hw).2.2.2.1) Tryd.underlying42 rfl SZ.out) H6.out ?_
    refine wpAnyH_take (i := 2) (v := ?_) rfl (by kernel_rfl) (by kernel_rfl) (by kernel_rfl) (fun _ _ _ h => h) (Or.inl ⟨by rfl, ?_⟩) H6.out ?_
    rotate_left
    · intro w hw; clear hw; go_simp; with_reducible rfl
    refine wpAnyH_take (i := 3) (v := ?_) rfl (by kernel_rfl) (by kernel_rfl) (by kernel_rfl) (fun _ _ _ h => h) (Or.inl ⟨by rfl, ?_⟩) H6.out ?_
    rotate_left
    · intro w hw; have z := (RS.out _ hw).1; clear hw; go_simp; with_reducible rfl
    refine wpAnyH_take (i := 4) (v := ?_) rfl (by kernel_rfl) (by kernel_rfl) (by kernel_rfl) (fun _ _ _ h => h) (Or.inl ⟨by rfl, ?_⟩) H6.out ?_
    rotate_left
    · intro w hw; clear hw; go_simp; with_reducible rfl
    refine wpAnyH_take (i := 5) (v := ?_) rfl (by kernel_rfl) (by kernel_rfl) (by kernel_rfl) (fun _ _ _ h => h) (Or.inl ⟨by rfl, ?_⟩) H6.out ?_
    rotate_left
    · intro w hw; have z := (RS.out _ hw).2.1; clear hw; go_simp; with_reducible rfl
    refine wpAnyH_take (i := 6) (v := ?_) rfl (by kernel_rfl) (by kernel_rfl) (by kernel_rfl) (fun _ _ _ h => h) (Or.inl ⟨by rfl, ?_⟩) H6.out ?_
    rotate_left
    · intro w hw; clear hw; go_simp; with_reducible rfl
    refine wpAnyH_take (i := 7) (v := ?_) rfl (by kernel_rfl) (by kernel_rfl) (by kernel_rfl) (fun _ _ _ h => h) (Or.inl ⟨by rfl, ?_⟩) H6.out ?_
    rotate_left
    · intro w hw; clear hw; go_simp; with_reducible rfl
    refine wpAnyH_take (i := 8) (v := ?_) rfl (by kernel_rfl) (by kernel_rfl) (by kernel_rfl) (fun _ _ _ h => h) (Or.inl ⟨by rfl, ?_⟩) H6.out ?_
    rotate_left
    · intro w hw; have z := (RS.out _ hw).2.2.1; clear hw; go_simp; with_reducible rfl
    refine wpAnyH_ready (rs := [1]) (by kernel_rfl) (by simp) ?_
    refine AllReadyH.cons rfl (fun K hK => ?_) (AllReadyH.nil)
    · go_simp
      go_wp2_with (go_at_call 16; refine (TL.out _).mono ?_; rintro e w7 ⟨rfl, hb7⟩)
      refine hK.out _ _ (Rt.keep H6.out hb7) (fun hHeld => ?_)
      clear hK K hHeld
      have H1 := Lib.hid (Rt.keep H6.out hb7)
      clear hb7
      refine wpAnyH_ready (rs := [9]) (by kernel_rfl) (by simp) ?_
      refine AllReadyH.cons rfl (fun K hK => ?_) (AllReadyH.nil)
      · go_simp
        go_wp2_with (go_at_call 17; refine (hs2.out _).mono ?_; rintro e w8 ⟨rfl, rfl⟩)
        refine hK.out _ _ H1.out (fun hHeld => ?_)
        clear hK K hHeld
        refine wpAnyH_take (i := 10) (v := ?_) rfl (by kernel_rfl) (by kernel_rfl) (by kernel_rfl) (fun _ _ _ h => h) (Or.inl ⟨by rfl, ?_⟩) H1.out ?_
        rotate_left
        · intro w hw; clear hw; go_simp; with_reducible rfl
        refine wpAnyH_take (i := 11) (v := ?_) rfl (by kernel_rfl) (by kernel_rfl) (by kernel_rfl) (fun _ _ _ h => h) (Or.inl ⟨by rfl, ?_⟩) H1.out ?_
        rotate_left
        · intro w hw; clear hw; go_simp; with_reducible rfl
        refine wpAnyH_ready (rs := [12]) (by kernel_rfl) (by simp) ?_
        refine AllReadyH.cons rfl (fun K hK => ?_) (AllReadyH.nil)
        · go_simp
          go_wp2_with (go_at_call 11; refine (O.out _ (Rt.max H1.out)).mono ?_; rintro e w9 ⟨rfl, hb9⟩)
          refine hK.out _ _ (Rt.keep H1.out hb9) (fun hHeld => ?_)
          clear hK K hHeld
          have HE := Lib.hid (Rt.keep H1.out hb9)
          clear hb9
          refine wpAnyH_take (i := 13) (v := ?_) rfl (by kernel_rfl) (by kernel_rfl) (by kernel_rfl) (fun _ _ _ h => h) (Or.inl ⟨by rfl, ?_⟩) HE.out ?_
          rotate_left
          · intro w hw; clear hw; go_simp; with_reducible rfl
          refine wpAnyH_take (i := 14) (v := ?_) rfl (by kernel_rfl) (by kernel_rfl) (by kernel_rfl) (fun _ _ _ h => h) (Or.inl ⟨by rfl, ?_⟩) HE.out ?_
          rotate_left
          · intro w hw; clear hw; go_simp; with_reducible rfl
          refine wpAnyH_done (by kernel_rfl) ?_ _
          go_wp2_with fail
          go_ret
          exact ⟨rfl, HE.out.below⟩
end Go.Proofs.YtmhhnmbedlhflaaDoor
