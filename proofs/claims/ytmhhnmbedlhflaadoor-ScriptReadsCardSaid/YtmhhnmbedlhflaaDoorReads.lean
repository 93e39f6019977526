/- Any text that is a line is the line of its act, which is right; others are none: the walk of ScriptReads. -/
import Derived.Test.YtmhhnmbedlhflaaDoorTells
namespace Go.Proofs.YtmhhnmbedlhflaaDoor
open Go.RowKit

/-- An act's block, what it keeps, MaxLen. -/
structure Ra (w W : World) (b : Nat) (C : Array Value) (m : Int) (kv : Value) (ks : List Int) : Prop where
  blk : Blk W b 24 C
  below : Below w.heap.size w W
  max : W.cell? ⟨0, 0, none⟩ = some (.int .i64 m)
  ints : Ints W 0 kv ks
section
variable {w W W' : World} {b : Nat} {C : Array Value} {m : Int} {kv : Value} {ks : List Int}
theorem Ra.keep (h : Ra w W b C m kv ks) (hb : Below W.heap.size W W') : Ra w W' b C m kv ks :=
  ⟨h.blk.below hb, h.below.trans (hb.mono h.below.size), (hb.cell (World.block_lt_of_cell? W _ h.max)).trans h.max, h.ints.below hb⟩
theorem Ra.drew (h : Ra w W b C m kv ks) : Ra w W.drew b C m kv ks := ⟨h.blk, h.below.drew, h.max, h.ints⟩
theorem Ra.range (h : Ra w W b C m kv ks) (hC : C.size = 9) : W.rangeAt b 0 C.toList := by
  have := World.rangeAt_of_block h.blk 0 9
  rw [show C.extract 0 (0 + 9) = C from by rw [show 0 + 9 = C.size from by rw [hC]]; exact Array.extract_size] at this
  exact this
end
theorem reads_long (s : Bs) (h : 1500 < s.length) (hl : s.length ≤ 9223372036854775807) (w : World) : Calls Tryd.prog 4 #[.string ⟨s.toArray⟩] w fun e w' => e = .returned (.bool true) ∧ Below w.heap.size w w' := by
  have h' : (1500 : Int) < (s.length : Int) := by omega
  clear h
  go_enter Tryd.func4, Tryd.ntmps4
  go_wp2_with fail
  go_ret
  exact ⟨rfl, Below.refl _ _⟩
set_option maxHeartbeats 4000000 in
set_option maxRecDepth 100000 in
theorem reads_bad (s : Bs) (h : s.length ≤ 1500) (hp : parseO s = none) (m : Int) (w : World) (hm : w.cell? ⟨0, 0, none⟩ = some (.int .i64 m)) :
    Calls Tryd.prog 4 #[.string ⟨s.toArray⟩] w fun e w' => e = .returned (.bool true) ∧ Below w.heap.size w w' := by
  have hh0 := World.block_lt_of_cell? w _ hm
  simp at hh0
  have h' : ¬ (1500 : Int) < (s.length : Int) := by omega
  have P := Lib.hid (parse_bad hp (by omega) m w hm)
  have HM := Lib.hid hm
  clear h hp hm
  go_enter Tryd.func4, Tryd.ntmps4
  go_wp2_with fail
  refine P.out.mono ?_
  rintro e w1 ⟨A, c, rfl, hI, hb⟩
  have hz1 := hb.size
  have hm1 := (hb.cell (p := ⟨0, 0, none⟩) hh0).trans HM.out
  generalize hO : aCells 0 (fun _ => 0) (fun _ => []) (.slice A 0 c) = O
  have OE := Lib.hid hO
  have OS := Lib.hid (show (Tryd.prog.info? 24).map (·.size) = some O.size by rw [← hO]; exact Tryd.size24)
  have OS' := Lib.hid (And.intro (show zCells.size = O.size by rw [← hO]; rfl) (show O.all (·.oneCell') = true by rw [← hO]; exact acells_one _ _ _ _ _ _))
  have b2 : Blk ((w1.alloc (.cells zCells 24)).setRow w1.heap.size O) w1.heap.size 24 O := setRow_heap (w1.alloc (.cells zCells 24)) _ zCells O 24 (0, 0) (Blk.new w1 24 zCells)
  have hB2 : Below w.heap.size w ((w1.alloc (.cells zCells 24)).setRow w1.heap.size O) := keep_row (hb.alloc hz1 _) hz1 O
  have R := Lib.hid (show Ra w ((w1.alloc (.cells zCells 24)).setRow w1.heap.size O) w1.heap.size O m (.slice A 0 c) [] from ⟨b2, hB2, (hB2.cell (p := ⟨0, 0, none⟩) hh0).trans HM.out, ⟨A, c, rfl, fun h => by simp at h⟩⟩)
  clear hO b2 hB2 hm1 hI hb
  go_wp2_with (first | (refine wpList_store_row rfl 24 _ _ rfl w1.heap.size O rfl rfl 24 zCells (Blk.new w1 24 zCells) OS.out OS'.out.1 OS'.out.2 ?_) | (refine wpList_load_row_w 24 _ rfl ?_ w1.heap.size rfl 24 O (0, 0) _ R.out.blk Tryd.underlying24 rfl OS.out ?_; rfl))
  have SM := same_run 0 (fun _ => 0) (fun _ => []) (.slice A 0 c) (.slice none 0 0) [] _ R.out.ints (Ints.nil _ _) (by decide) (fun _ => by simp)
  rw [OE.out] at SM
  refine SM.mono ?_
  clear SM
  rintro e w5 ⟨rfl, hb5⟩
  have R5 := Lib.hid (R.out.keep hb5)
  clear hb5
  go_wp2_with fail
  refine (one_run m _ R5.out.max).mono ?_
  rintro e w9 ⟨rfl, hb9⟩
  have R9 := Lib.hid (R5.out.keep hb9)
  clear hb9
  go_wp2_with fail
  go_ret
  exact ⟨rfl, R9.out.below⟩
set_option maxHeartbeats 8000000 in
set_option maxRecDepth 100000 in
theorem reads_good (s : Bs) (h : s.length ≤ 1500) (k : Nat) (N : Nat → Int) (T : Nat → Bs) (ks : List Int) (hp : parseO s = some (k, N, T, ks)) (m : Int) (w : World) (hm : w.cell? ⟨0, 0, none⟩ = some (.int .i64 m)) :
    Calls Tryd.prog 4 #[.string ⟨s.toArray⟩] w fun e w' => e = .returned (.bool true) ∧ Below w.heap.size w w' := by
  have hh0 := World.block_lt_of_cell? w _ hm
  simp at hh0
  have h' : ¬ (1500 : Int) < (s.length : Int) := by omega
  have P := Lib.hid (parse_ok hp (by omega) m w hm)
  have HM := Lib.hid hm
  obtain ⟨hr, ht, hk, hN, hT, hks⟩ := parse_some hp
  obtain ⟨_, hr2, hr3, _, _⟩ := right_parts hr
  rw [hks] at hr3
  have hTl : ∀ i, (T i).length ≤ 1000000 := fun i => by
    by_cases hi : i ∈ txts (k : Int)
    · have := hr2 i hi; omega
    · rw [← hT]; unfold sel; rw [if_neg hi]; simp
  have hkl : ks.length ≤ 1000000 := by omega
  have hbool : ∀ w, (binOp .eql 9 (.string ⟨s.toArray⟩) (.string ⟨s.toArray⟩)).run Tryd.prog w = .ok (.bool true) w := fun w => by simp [go_sem]
  clear h hp hm
  go_enter Tryd.func4, Tryd.ntmps4
  go_wp2_with fail
  refine P.out.mono ?_
  rintro e w1 ⟨A, c, rfl, hI, hb⟩
  have hz1 := hb.size
  have OW := Lib.hid (fun w => own_run (k : Int) N T A ks.length c w)
  have RR := Lib.hid (fun w (hI : Ints w 0 (.slice A ks.length c) ks) => refright_run (k : Int) N T (.slice A ks.length c) ks w hI hkl hTl)
  have RT := Lib.hid (fun w (hI : Ints w 0 (.slice A ks.length c) ks) => reftext_go k (by omega) N T (.slice A ks.length c) ks w hI hkl hr)
  have TX := Lib.hid (fun w (hI : Ints w 0 (.slice A ks.length c) ks) => text_run (k : Int) N T (.slice A ks.length c) ks w hI hkl)
  have CL := Lib.hid (fun w (hI : Ints w 0 (.slice A ks.length c) ks) => clean_run (k : Int) N T (.slice A ks.length c) ks w hI hkl)
  have SM := Lib.hid (fun w kv' (hI : Ints w 0 (.slice A ks.length c) ks) (hI' : Ints w 0 kv' ks) => same_run (k : Int) N T (.slice A ks.length c) kv' ks w hI hI' hkl hTl)
  have ON := Lib.hid (fun w hm => one_run m w hm)
  rw [hr] at RR
  rw [ht] at RT
  rw [hr, if_pos rfl, ht] at TX
  rw [hN, hT, hks] at CL
  generalize hO : aCells (k : Int) N T (.slice A ks.length c) = O at OW RR RT TX CL SM
  have OS := Lib.hid (show (Tryd.prog.info? 24).map (·.size) = some O.size by rw [← hO]; exact Tryd.size24)
  have OS' := Lib.hid (And.intro (show zCells.size = O.size by rw [← hO]; rfl) (And.intro (show O.all (·.oneCell') = true by rw [← hO]; exact acells_one _ _ _ _ _ _) (show O.size = 9 by rw [← hO]; rfl)))
  have OS2 := Lib.hid (show (Tryd.prog.info? 24).map (·.size) = some O.toList.length by rw [Array.length_toList]; exact OS.out)
  have b2 : Blk ((w1.alloc (.cells zCells 24)).setRow w1.heap.size O) w1.heap.size 24 O := setRow_heap (w1.alloc (.cells zCells 24)) _ zCells O 24 (0, 0) (Blk.new w1 24 zCells)
  have hB2 : Below w.heap.size w ((w1.alloc (.cells zCells 24)).setRow w1.heap.size O) := keep_row (hb.alloc hz1 _) hz1 O
  have hI2 : Ints ((w1.alloc (.cells zCells 24)).setRow w1.heap.size O) 0 (.slice A ks.length c) ks :=
    (Ints.of_block (w := w1) hI (by rw [setRow_size]; simp) (fun g _ hg => by rw [setRow_other _ _ _ _ (by omega)]; exact Below.heap_alloc _ _ _ hg)).mono (Nat.zero_le _)
  have R := Lib.hid (show Ra w ((w1.alloc (.cells zCells 24)).setRow w1.heap.size O) w1.heap.size O m (.slice A ks.length c) ks from ⟨b2, hB2, (hB2.cell (p := ⟨0, 0, none⟩) hh0).trans HM.out, hI2⟩)
  clear b2 hB2 hI hb hI2 hr ht hk hN hT hks hr2 hr3 hTl hkl
  go_wp2_with (refine wpList_store_row rfl 24 _ _ rfl w1.heap.size O rfl rfl 24 zCells (Blk.new w1 24 zCells) OS.out OS'.out.1 OS'.out.2.1 ?_)
  have R0 := Lib.hid R.out.drew
  refine wp_region_held (S := fun W => Ra w W w1.heap.size O m (.slice A ks.length c) ks) (by kernel_rfl) ?_
  change wpAnyH _ _ _ _ _ _ _ _ (World.drew _)
  refine wpAnyH_take (i := 0) rfl (by kernel_rfl) (by kernel_rfl) (by kernel_rfl) (fun _ _ _ h => h) (yieldsIf_load_mid (by rfl) 24 _ rfl w1.heap.size 0 rfl O.toList _ (fun w hw => hw.range OS'.out.2.2) Tryd.underlying24 rfl OS2.out) R0.out ?_
  refine wpAnyH_ready (rs := [1]) (by kernel_rfl) (by simp) ?_
  refine AllReadyH.cons rfl (fun K hK => ?_) (AllReadyH.nil)
  · go_simp
    go_wp2_with (go_at_call 6; refine (OW.out _).mono ?_; rintro e w11 ⟨rfl, hb11⟩)
    refine hK.out _ _ (R0.out.keep hb11) (fun hHeld => ?_)
    clear hK K hHeld
    have R11 := Lib.hid (R0.out.keep hb11)
    clear hb11
    refine wpAnyH_ready (rs := [2]) (by kernel_rfl) (by simp) ?_
    refine AllReadyH.cons rfl (fun K hK => ?_) (AllReadyH.nil)
    · go_simp
      go_wp2_with (go_at_call 10; refine (RR.out _ R11.out.ints).mono ?_; rintro e w12 ⟨rfl, hb12⟩)
      refine hK.out _ _ (R11.out.keep hb12) (fun hHeld => ?_)
      clear hK K hHeld
      have R12 := Lib.hid (R11.out.keep hb12)
      clear hb12
      refine wpAnyH_take (i := 3) (v := ?_) rfl (by kernel_rfl) (by kernel_rfl) (by kernel_rfl) (fun _ _ _ h => h) (Or.inl ⟨by rfl, ?_⟩) R12.out ?_
      rotate_left
      · intro w hw; clear hw; go_simp; with_reducible rfl
      refine wpAnyH_take (i := 4) rfl (by kernel_rfl) (by kernel_rfl) (by kernel_rfl) (fun _ _ _ h => h) (yieldsIf_load_mid (by rfl) 24 _ rfl w1.heap.size 0 rfl O.toList _ (fun w hw => hw.range OS'.out.2.2) Tryd.underlying24 rfl OS2.out) R12.out ?_
      refine wpAnyH_take (i := 7) (v := ?_) rfl (by kernel_rfl) (by kernel_rfl) (by kernel_rfl) (fun _ _ _ h => h) (Or.inl ⟨by rfl, ?_⟩) R12.out ?_
      rotate_left
      · intro w hw; clear hw; go_simp; with_reducible rfl
      refine wpAnyH_ready (rs := [5]) (by kernel_rfl) (by simp) ?_
      refine AllReadyH.cons rfl (fun K hK => ?_) (AllReadyH.nil)
      · go_simp
        go_wp2_with (go_at_call 6; refine (OW.out _).mono ?_; rintro e w13 ⟨rfl, hb13⟩)
        refine hK.out _ _ (R12.out.keep hb13) (fun hHeld => ?_)
        clear hK K hHeld
        have R13 := Lib.hid (R12.out.keep hb13)
        clear hb13
        refine wpAnyH_ready (rs := [6]) (by kernel_rfl) (by simp) ?_
        refine AllReadyH.cons rfl (fun K hK => ?_) (AllReadyH.nil)
        · go_simp
          go_wp2_with (go_at_call 13; refine (RT.out _ R13.out.ints).mono ?_; rintro e w14 ⟨rfl, hb14⟩)
          refine hK.out _ _ (R13.out.keep hb14) (fun hHeld => ?_)
          clear hK K hHeld
          have R14 := Lib.hid (R13.out.keep hb14)
          clear hb14
          refine wpAnyH_take (i := 8) (v := ?_) rfl (by kernel_rfl) (by kernel_rfl) (by kernel_rfl) (fun _ _ _ h => h) (Or.inl ⟨by rfl, ?_⟩) R14.out ?_
          rotate_left
          · intro w hw; clear hw; go_simp; with_reducible rfl
          refine wpAnyH_take (i := 9) (v := ?_) rfl (by kernel_rfl) (by kernel_rfl) (by kernel_rfl) (fun _ _ _ h => h) (Or.inl ⟨by rfl, ?_⟩) R14.out ?_
          rotate_left
          · intro w hw; clear hw; go_simp; with_reducible rfl
          refine wpAnyH_take (i := 10) (v := ?_) rfl (by kernel_rfl) (by kernel_rfl) (by kernel_rfl) (fun _ _ _ h => h) (Or.inl ⟨by rfl, ?_⟩) R14.out ?_
          rotate_left
          · intro w hw; clear hw; go_simp; with_reducible rfl
          refine wpAnyH_take (i := 11) rfl (by kernel_rfl) (by kernel_rfl) (by kernel_rfl) (fun _ _ _ h => h) (yieldsIf_load_mid (by rfl) 24 _ rfl w1.heap.size 0 rfl O.toList _ (fun w hw => hw.range OS'.out.2.2) Tryd.underlying24 rfl OS2.out) R14.out ?_
          refine wpAnyH_take (i := 13) (v := ?_) rfl (by kernel_rfl) (by kernel_rfl) (by kernel_rfl) (fun _ _ _ h => h) (Or.inl ⟨by rfl, ?_⟩) R14.out ?_
          rotate_left
          · intro w hw; clear hw; go_simp; with_reducible rfl
          refine wpAnyH_ready (rs := [12]) (by kernel_rfl) (by simp) ?_
          refine AllReadyH.cons rfl (fun K hK => ?_) (AllReadyH.nil)
          · go_simp
            go_wp2_with (go_at_call 7; refine (TX.out _ R14.out.ints).mono ?_; rintro e w15 ⟨rfl, hb15⟩)
            refine hK.out _ _ (R14.out.keep hb15) (fun hHeld => ?_)
            clear hK K hHeld
            have R15 := Lib.hid (R14.out.keep hb15)
            clear hb15
            refine wpAnyH_take (i := 14) (v := ?_) rfl (by kernel_rfl) (by kernel_rfl) (by kernel_rfl) (fun _ _ _ h => h) (Or.inl ⟨by rfl, ?_⟩) R15.out ?_
            rotate_left
            · intro w hw; clear hw; go_simp; with_reducible rfl
            refine wpAnyH_take (i := 15) (v := ?_) rfl (by kernel_rfl) (by kernel_rfl) (by kernel_rfl) (fun _ _ _ h => h) (Or.inl ⟨by rfl, ?_⟩) R15.out ?_
            rotate_left
            · intro w hw; clear hw; go_simp; with_reducible rfl
            refine wpAnyH_take (i := 16) (v := ?_) rfl (by kernel_rfl) (by kernel_rfl) (by kernel_rfl) (fun _ _ _ h => h) (Or.inl ⟨by rfl, ?_⟩) R15.out ?_
            rotate_left
            · intro w hw; clear hw; go_simp; with_reducible rfl
            refine wpAnyH_take (i := 17) rfl (by kernel_rfl) (by kernel_rfl) (by kernel_rfl) (fun _ _ _ h => h) (yieldsIf_load_mid (by rfl) 24 _ rfl w1.heap.size 0 rfl O.toList _ (fun w hw => hw.range OS'.out.2.2) Tryd.underlying24 rfl OS2.out) R15.out ?_
            refine wpAnyH_take (i := 18) rfl (by kernel_rfl) (by kernel_rfl) (by kernel_rfl) (fun _ _ _ h => h) (yieldsIf_load_mid (by rfl) 24 _ rfl w1.heap.size 0 rfl O.toList _ (fun w hw => hw.range OS'.out.2.2) Tryd.underlying24 rfl OS2.out) R15.out ?_
            refine wpAnyH_ready (rs := [19]) (by kernel_rfl) (by simp) ?_
            refine AllReadyH.cons rfl (fun K hK => ?_) (AllReadyH.nil)
            · go_simp
              go_wp2_with (go_at_call 8; refine (CL.out _ R15.out.ints).mono ?_; rintro e w16 ⟨kv', rfl, hI', hb16⟩)
              refine hK.out _ _ (R15.out.keep hb16) (fun hHeld => ?_)
              clear hK K hHeld
              have R16 := Lib.hid (R15.out.keep hb16)
              clear hb16
              refine wpAnyH_ready (rs := [20]) (by kernel_rfl) (by simp) ?_
              refine AllReadyH.cons rfl (fun K hK => ?_) (AllReadyH.nil)
              · go_simp
                go_wp2_with (go_at_call 14; refine (SM.out _ kv' R16.out.ints (hI'.mono (Nat.zero_le _))).mono ?_; rintro e w17 ⟨rfl, hb17⟩)
                refine hK.out _ _ (R16.out.keep hb17) (fun hHeld => ?_)
                clear hK K hHeld
                have R17 := Lib.hid (R16.out.keep hb17)
                clear hb17
                refine wpAnyH_take (i := 21) (v := ?_) rfl (by kernel_rfl) (by kernel_rfl) (by kernel_rfl) (fun _ _ _ h => h) (Or.inl ⟨by rfl, ?_⟩) R17.out ?_
                rotate_left
                · intro w hw; clear hw; go_simp; with_reducible rfl
                refine wpAnyH_take (i := 22) (v := ?_) rfl (by kernel_rfl) (by kernel_rfl) (by kernel_rfl) (fun _ _ _ h => h) (Or.inl ⟨by rfl, ?_⟩) R17.out ?_
                rotate_left
                · intro w hw; clear hw; go_simp; with_reducible rfl
                refine wpAnyH_take (i := 23) (v := ?_) rfl (by kernel_rfl) (by kernel_rfl) (by kernel_rfl) (fun _ _ _ h => h) (Or.inl ⟨by rfl, ?_⟩) R17.out ?_
                rotate_left
                · intro w hw; clear hw; go_simp; with_reducible rfl
                refine wpAnyH_ready (rs := [24]) (by kernel_rfl) (by simp) ?_
                refine AllReadyH.cons rfl (fun K hK => ?_) (AllReadyH.nil)
                · go_simp
                  go_wp2_with (go_at_call 11; refine (ON.out _ R17.out.max).mono ?_; rintro e w18 ⟨rfl, hb18⟩)
                  refine hK.out _ _ (R17.out.keep hb18) (fun hHeld => ?_)
                  clear hK K hHeld
                  have R18 := Lib.hid (R17.out.keep hb18)
                  clear hb18
                  refine wpAnyH_take (i := 25) (v := ?_) rfl (by kernel_rfl) (by kernel_rfl) (by kernel_rfl) (fun _ _ _ h => h) (Or.inl ⟨by rfl, ?_⟩) R18.out ?_
                  rotate_left
                  · intro w hw; clear hw; go_simp; with_reducible rfl
                  refine wpAnyH_take (i := 26) (v := ?_) rfl (by kernel_rfl) (by kernel_rfl) (by kernel_rfl) (fun _ _ _ h => h) (Or.inl ⟨by rfl, ?_⟩) R18.out ?_
                  rotate_left
                  · intro w hw; clear hw; go_simp; with_reducible rfl
                  refine wpAnyH_done (by kernel_rfl) ?_ _
                  go_wp2_with fail
                  go_ret
                  exact ⟨rfl, R18.out.below⟩
end Go.Proofs.YtmhhnmbedlhflaaDoor
