/- Any act has the document's line, and is read from it, without what does not count; or has none: the walk of ScriptLines. -/
import Derived.Test.YtmhhnmbedlhflaaDoorReads
namespace Go.Proofs.YtmhhnmbedlhflaaDoor
open Go.RowKit

theorem text_sel {k : Int} {N : Nat → Int} {T : Nat → Bs} {ks : List Int} : textB k (sel (places k) 0 N) (sel (txts k) [] T) (keepOf k ks) = textB k N T ks := by
  unfold textB
  rw [words_sel]
  · intro i hi; unfold sel; rw [if_pos hi]
  · intro i hi; unfold sel; rw [if_pos hi]
theorem right_sel {k : Int} {N : Nat → Int} {T : Nat → Bs} {ks : List Int} : rightB k (sel (places k) 0 N) (sel (txts k) [] T) (keepOf k ks) = rightB k N T ks := by
  rw [rightB_sel]
  · intro i hi; unfold sel; rw [if_pos hi]
  · intro i hi; unfold sel; rw [if_pos hi]
theorem text_len {k : Int} {N : Nat → Int} {T : Nat → Bs} {ks : List Int} (h : rightB k N T ks = true) : (textB k N T ks).length ≤ 900000 := by
  obtain ⟨h1, h2⟩ := words_len h
  unfold textB
  exact Nat.le_trans (join_le 32 400 _ h2) (by omega)
/-- The law's blocks: the act, its own form, the clean act; MaxLen. -/
structure Rl (w W : World) (g3 g5 : Nat) (C C5 : Array Value) (m : Int) (kv kv5 : Value) (ks ks5 : List Int) : Prop where
  b1 : Blk W w.heap.size 24 C
  b3 : Blk W g3 27 C
  b5 : Blk W g5 24 C5
  below : Below w.heap.size w W
  max : W.cell? ⟨0, 0, none⟩ = some (.int .i64 m)
  i1 : Ints W 0 kv ks
  i5 : Ints W 0 kv5 ks5
section
variable {w W W' : World} {g3 g5 : Nat} {C C5 : Array Value} {m : Int} {kv kv5 : Value} {ks ks5 : List Int}
theorem Rl.keep (h : Rl w W g3 g5 C C5 m kv kv5 ks ks5) (hb : Below W.heap.size W W') : Rl w W' g3 g5 C C5 m kv kv5 ks ks5 :=
  ⟨h.b1.below hb, h.b3.below hb, h.b5.below hb, h.below.trans (hb.mono h.below.size), (hb.cell (World.block_lt_of_cell? W _ h.max)).trans h.max, h.i1.below hb, h.i5.below hb⟩
theorem Rl.drew (h : Rl w W g3 g5 C C5 m kv kv5 ks ks5) : Rl w W.drew g3 g5 C C5 m kv kv5 ks ks5 := ⟨h.b1, h.b3, h.b5, h.below.drew, h.max, h.i1, h.i5⟩
end
theorem blk_range {W : World} {b : Nat} {t : TypeId} {C : Array Value} (h : Blk W b t C) (hC : C.size = 9) : W.rangeAt b 0 C.toList := by
  have := World.rangeAt_of_block h 0 9
  rw [show C.extract 0 (0 + 9) = C from by rw [show 0 + 9 = C.size from by rw [hC]]; exact Array.extract_size] at this
  exact this
theorem acells_cells (k : Int) (N : Nat → Int) (T : Nat → Bs) (kv : Value) : (aCells k N T kv)[6]? = some (.string ⟨(T 6).toArray⟩) ∧ (aCells k N T kv)[7]? = some (.string ⟨(T 7).toArray⟩) ∧ (aCells k N T kv)[8]? = some kv := ⟨rfl, rfl, rfl⟩
set_option maxRecDepth 100000 in
theorem lines_long (k : Int) (N : Nat → Int) (T : Nat → Bs) (A : Option Addr) (n c : Nat) (w : World) (h : 400 < (T 6).length ∨ 400 < (T 7).length ∨ 200 < n) :
    Calls Tryd.prog 3 #[.agg (aCells k N T (.slice A n c))] w fun e w' => e = .returned (.bool true) ∧ Below w.heap.size w w' := by
  obtain ⟨h6, h7, h8⟩ := acells_cells k N T (.slice A n c)
  generalize aCells k N T (.slice A n c) = C at h6 h7 h8
  have x6 := ((Blk.new w 24 C).cell 6).trans h6
  have x7 := ((Blk.new w 24 C).cell 7).trans h7
  have x8 := ((Blk.new w 24 C).cell 8).trans h8
  have B := Lib.hid ((Below.refl w.heap.size w).alloc (Nat.le_refl _) (.cells C 24))
  generalize T 6 = t6 at h x6
  generalize T 7 = t7 at h x7
  have H := Lib.hid h
  clear h h6 h7 h8
  by_cases a6 : 400 < t6.length
  · have a6' : (400 : Int) < (t6.length : Int) := by omega
    go_enter Tryd.func3, Tryd.ntmps3
    go_wp2_with fail
    go_ret
    exact ⟨rfl, B.out⟩
  · have a6' : ¬ (400 : Int) < (t6.length : Int) := by omega
    by_cases a7 : 400 < t7.length
    · have a7' : (400 : Int) < (t7.length : Int) := by omega
      go_enter Tryd.func3, Tryd.ntmps3
      go_wp2_with fail
      go_ret
      exact ⟨rfl, B.out⟩
    · have a7' : ¬ (400 : Int) < (t7.length : Int) := by omega
      have a8 := H.out
      have a8' : (200 : Int) < (n : Int) := by omega
      clear a8
      go_enter Tryd.func3, Tryd.ntmps3
      go_wp2_with fail
      go_ret
      exact ⟨rfl, B.out⟩
set_option maxHeartbeats 8000000 in
set_option maxRecDepth 100000 in
theorem lines_main (k : Int) (N : Nat → Int) (T : Nat → Bs) (A : Option Addr) (ks : List Int) (c : Nat) (m : Int) (w : World) (hI : Ints w 0 (.slice A ks.length c) ks) (h6 : (T 6).length ≤ 400) (h7 : (T 7).length ≤ 400) (h8 : ks.length ≤ 200)
    (hTl : ∀ i, (T i).length ≤ 1000000) (hm : w.cell? ⟨0, 0, none⟩ = some (.int .i64 m)) :
    Calls Tryd.prog 3 #[.agg (aCells k N T (.slice A ks.length c))] w fun e w' => e = .returned (.bool true) ∧ Below w.heap.size w w' := by
  have hh0 := World.block_lt_of_cell? w _ hm
  simp at hh0
  have hkl : ks.length ≤ 1000000 := by omega
  obtain ⟨q6, q7, q8⟩ := acells_cells k N T (.slice A ks.length c)
  have OW := Lib.hid (fun w => own_run k N T A ks.length c w)
  have RI := Lib.hid (fun w (hI : Ints w 0 (.slice A ks.length c) ks) => right_run k N T (.slice A ks.length c) ks w hI hkl)
  have RR := Lib.hid (fun w (hI : Ints w 0 (.slice A ks.length c) ks) => refright_run k N T (.slice A ks.length c) ks w hI hkl hTl)
  have TX := Lib.hid (fun w (hI : Ints w 0 (.slice A ks.length c) ks) => text_run k N T (.slice A ks.length c) ks w hI hkl)
  have CL := Lib.hid (fun w (hI : Ints w 0 (.slice A ks.length c) ks) => clean_run k N T (.slice A ks.length c) ks w hI hkl)
  have RT := Lib.hid (fun w (hI : Ints w 0 (.slice A ks.length c) ks) (kn : Nat) (hk : k = kn) (hr : rightB kn N T ks = true) => reftext_go kn (by obtain ⟨h, _⟩ := right_parts hr; omega) N T (.slice A ks.length c) ks w hI hkl hr)
  have ON := Lib.hid (fun w hm => one_run m w hm)
  generalize hO : aCells k N T (.slice A ks.length c) = C at OW RI RR TX CL q6 q7 q8
  have OE := Lib.hid hO
  have OS := Lib.hid (show (Tryd.prog.info? 24).map (·.size) = some C.size by rw [← hO]; exact Tryd.size24)
  have OS7 := Lib.hid (show (Tryd.prog.info? 27).map (·.size) = some C.size by rw [← hO]; exact Tryd.size27)
  have OS' := Lib.hid (And.intro (show zCells.size = C.size by rw [← hO]; rfl) (And.intro (show C.all (·.oneCell') = true by rw [← hO]; exact acells_one _ _ _ _ _ _) (show C.size = 9 by rw [← hO]; rfl)))
  have x6 := ((Blk.new w 24 C).cell 6).trans q6
  have x7 := ((Blk.new w 24 C).cell 7).trans q7
  have x8 := ((Blk.new w 24 C).cell 8).trans q8
  have a6 : ¬ (400 : Int) < ((T 6).length : Int) := by omega
  have a7 : ¬ (400 : Int) < ((T 7).length : Int) := by omega
  have a8 : ¬ (200 : Int) < (ks.length : Int) := by omega
  have B0 := Lib.hid ((Below.refl w.heap.size w).alloc (Nat.le_refl _) (.cells C 24))
  have I0 := Lib.hid (hI.below ((Below.refl w.heap.size w).alloc (Nat.le_refl _) (.cells C 24)))
  have HM := Lib.hid hm
  obtain ⟨SS, hSS⟩ : ∃ S, S = if rightB k N T ks then textB k N T ks else [] := ⟨_, rfl⟩
  have HS := Lib.hid hSS
  rw [← hSS] at TX
  clear hSS
  have HT := Lib.hid hTl
  have HK := Lib.hid hkl
  clear hO q6 q7 q8 hI hm h6 h7 h8
  go_enter Tryd.func3, Tryd.ntmps3
  go_wp2_with (refine wpList_load_row rfl 24 _ rfl w.heap.size rfl 24 C (0, 0) _ (Blk.new w 24 C) Tryd.underlying24 rfl OS.out ?_)
  refine (OW.out _).mono ?_
  rintro e w1 ⟨rfl, hb1⟩
  have R1 := Lib.hid (show Ra w w1 w.heap.size C m (.slice A ks.length c) ks from ⟨(Blk.new w 24 C).below hb1, B0.out.trans (hb1.mono B0.out.size), (hb1.cell (by simp)).trans ((B0.out.cell hh0).trans HM.out), I0.out.below hb1⟩)
  have hz1 : w.heap.size + 1 ≤ w1.heap.size := by simpa using hb1.size
  clear hb1 x6 x7 x8
  have b3 : Blk ((w1.alloc (.cells zCells 27)).setRow w1.heap.size C) w1.heap.size 27 C := setRow_heap (w1.alloc (.cells zCells 27)) _ zCells C 27 (0, 0) (Blk.new w1 27 zCells)
  have b1 : Blk ((w1.alloc (.cells zCells 27)).setRow w1.heap.size C) w.heap.size 24 C := (R1.out.blk.alloc (.cells zCells 27)).of_block (setRow_other _ _ _ _ (by omega))
  have hB : Below w.heap.size w ((w1.alloc (.cells zCells 27)).setRow w1.heap.size C) := keep_row (R1.out.below.alloc (by omega) _) (by omega) C
  have hI : Ints ((w1.alloc (.cells zCells 27)).setRow w1.heap.size C) 0 (.slice A ks.length c) ks :=
    Ints.of_block (w := w1) R1.out.ints (by rw [setRow_size]; simp) (fun g _ hg => by rw [setRow_other _ _ _ _ (by omega)]; exact Below.heap_alloc _ _ _ hg)
  have R2 := Lib.hid (And.intro b3 (show Ra w ((w1.alloc (.cells zCells 27)).setRow w1.heap.size C) w.heap.size C m (.slice A ks.length c) ks from ⟨b1, hB, (hB.cell hh0).trans HM.out, hI⟩))
  have z2 : w1.heap.size + 1 ≤ ((w1.alloc (.cells zCells 27)).setRow w1.heap.size C).heap.size := by rw [setRow_size]; simp
  have Z2 := Lib.hid z2
  clear b3 b1 hB hI z2
  go_wp2_with (first | (refine wpList_store_row rfl 27 _ _ rfl w1.heap.size C rfl rfl 27 zCells (Blk.new w1 27 zCells) OS7.out OS'.out.1 OS'.out.2.1 ?_) | (refine wpList_load_row rfl 24 _ rfl w.heap.size rfl 24 C (0, 0) _ R2.out.2.blk Tryd.underlying24 rfl OS.out ?_))
  refine (TX.out _ R2.out.2.ints).mono ?_
  rintro e w3 ⟨rfl, hb3⟩
  have R3 := Lib.hid (And.intro (R2.out.1.below hb3) (R2.out.2.keep hb3))
  have z3 : w1.heap.size + 1 ≤ w3.heap.size := Nat.le_trans Z2.out hb3.size
  clear hb3
  go_wp2_with (refine wpList_load_row rfl 24 _ rfl w.heap.size rfl 24 C (0, 0) _ R3.out.2.blk Tryd.underlying24 rfl OS.out ?_)
  refine (CL.out _ R3.out.2.ints).mono ?_
  rintro e w4 ⟨kv5, rfl, hI5, hb4⟩
  have hI5' := hI5
  obtain ⟨A5, c5, rfl, _⟩ := hI5'
  have R4 := Lib.hid (And.intro (R3.out.1.below hb4) (R3.out.2.keep hb4))
  have z4 : w1.heap.size + 1 ≤ w4.heap.size := Nat.le_trans z3 hb4.size
  generalize hO5 : aCells k (sel (places k) 0 N) (sel (txts k) [] T) (.slice A5 (keepOf k ks).length c5) = C5
  have OE5 := Lib.hid hO5
  have O5 := Lib.hid (show (Tryd.prog.info? 24).map (·.size) = some C5.size by rw [← hO5]; exact Tryd.size24)
  have O5' := Lib.hid (And.intro (show zCells.size = C5.size by rw [← hO5]; rfl) (And.intro (show C5.all (·.oneCell') = true by rw [← hO5]; exact acells_one _ _ _ _ _ _) (show C5.size = 9 by rw [← hO5]; rfl)))
  have b5 : Blk ((w4.alloc (.cells zCells 24)).setRow w4.heap.size C5) w4.heap.size 24 C5 := setRow_heap (w4.alloc (.cells zCells 24)) _ zCells C5 24 (0, 0) (Blk.new w4 24 zCells)
  have b1 : Blk ((w4.alloc (.cells zCells 24)).setRow w4.heap.size C5) w.heap.size 24 C := (R4.out.2.blk.alloc (.cells zCells 24)).of_block (setRow_other _ _ _ _ (by omega))
  have b3 : Blk ((w4.alloc (.cells zCells 24)).setRow w4.heap.size C5) w1.heap.size 27 C := (R4.out.1.alloc (.cells zCells 24)).of_block (setRow_other _ _ _ _ (by omega))
  have hB : Below w.heap.size w ((w4.alloc (.cells zCells 24)).setRow w4.heap.size C5) := keep_row (R4.out.2.below.alloc (by omega) _) (by omega) C5
  have hof : ∀ {B : Nat} {v : Value} {l : List Int}, Ints w4 B v l → Ints ((w4.alloc (.cells zCells 24)).setRow w4.heap.size C5) 0 v l := fun h =>
    (Ints.of_block (w := w4) h (by rw [setRow_size]; simp) (fun g _ hg => by rw [setRow_other _ _ _ _ (by omega)]; exact Below.heap_alloc _ _ _ hg)).mono (Nat.zero_le _)
  have R5 := Lib.hid (show Rl w ((w4.alloc (.cells zCells 24)).setRow w4.heap.size C5) w1.heap.size w4.heap.size C C5 m (.slice A ks.length c) (.slice A5 (keepOf k ks).length c5) ks (keepOf k ks) from ⟨b1, b3, b5, hB, (hB.cell hh0).trans HM.out, hof R4.out.2.ints, hof hI5⟩)
  clear hO5 b5 b1 b3 hB hof hI5 hb4
  go_wp2_with (refine wpList_store_row rfl 24 _ _ rfl w4.heap.size C5 rfl rfl 24 zCells (Blk.new w4 24 zCells) O5.out O5'.out.1 O5'.out.2.1 ?_)
  have R6 := Lib.hid R5.out.drew
  obtain ⟨r, hr⟩ : ∃ r, r = rightB k N T ks := ⟨_, rfl⟩
  have HR := Lib.hid hr
  rw [← hr] at RI RR
  clear hr
  refine wp_region_held (S := fun W => Rl w W w1.heap.size w4.heap.size C C5 m (.slice A ks.length c) (.slice A5 (keepOf k ks).length c5) ks (keepOf k ks)) (by kernel_rfl) ?_
  change wpAnyH _ _ _ _ _ _ _ _ (World.drew _)
  refine wpAnyH_take (i := 0) rfl (by kernel_rfl) (by kernel_rfl) (by kernel_rfl) (fun _ _ _ h => h) (yieldsIf_load_mid (by rfl) 24 _ rfl w.heap.size 0 rfl C.toList _ (fun w hw => blk_range hw.b1 OS'.out.2.2) Tryd.underlying24 rfl (by rw [Array.length_toList]; exact OS.out)) R6.out ?_
  refine wpAnyH_take (i := 2) rfl (by kernel_rfl) (by kernel_rfl) (by kernel_rfl) (fun _ _ _ h => h) (yieldsIf_load_mid (by rfl) 27 _ rfl w1.heap.size 0 rfl C.toList _ (fun w hw => blk_range hw.b3 OS'.out.2.2) Tryd.underlying27 rfl (by rw [Array.length_toList]; exact OS7.out)) R6.out ?_
  refine wpAnyH_ready (rs := [1]) (by kernel_rfl) (by simp) ?_
  refine AllReadyH.cons rfl (fun K hK => ?_) (AllReadyH.nil)
  · go_simp
    go_wp2_with (go_at_call 9; refine (RI.out _ R6.out.i1).mono ?_; rintro e w7 ⟨rfl, hb7⟩)
    refine hK.out _ _ (R6.out.keep hb7) (fun hHeld => ?_)
    clear hK K hHeld
    have R7 := Lib.hid (R6.out.keep hb7)
    clear hb7
    refine wpAnyH_ready (rs := [3]) (by kernel_rfl) (by simp) ?_
    refine AllReadyH.cons rfl (fun K hK => ?_) (AllReadyH.nil)
    · go_simp
      go_wp2_with (go_at_call 10; refine (RR.out _ R7.out.i1).mono ?_; rintro e w8 ⟨rfl, hb8⟩)
      refine hK.out _ _ (R7.out.keep hb8) (fun hHeld => ?_)
      clear hK K hHeld
      have R8 := Lib.hid (R7.out.keep hb8)
      clear hb8
      refine wpAnyH_take (i := 4) (v := ?_) rfl (by kernel_rfl) (by kernel_rfl) (by kernel_rfl) (fun _ _ _ h => h) (Or.inl ⟨by rfl, ?_⟩) R8.out ?_
      rotate_left
      · intro w hw; clear hw; go_simp; with_reducible rfl
      refine wpAnyH_done (by kernel_rfl) ?_ _
      go_goals
      rcases r with _ | _
      · have hS0 : SS = [] := by rw [HS.out, ← HR.out]; rfl
        subst hS0
        go_wp2_with (refine wpList_load_row rfl 27 _ rfl w1.heap.size rfl 27 C (0, 0) _ R8.out.b3 Tryd.underlying27 rfl OS7.out ?_)
        refine (RR.out _ R8.out.i1).mono ?_
        rintro e w9 ⟨rfl, hb9⟩
        have R9 := Lib.hid (R8.out.keep hb9)
        clear hb9
        go_wp2_with fail
        refine (ON.out _ R9.out.max).mono ?_
        rintro e w10 ⟨rfl, hb10⟩
        have R10 := Lib.hid (R9.out.keep hb10)
        clear hb10
        go_wp2_with fail
        go_ret
        exact ⟨rfl, R10.out.below⟩
      · have hr := HR.out.symm
        obtain ⟨⟨h1, h2⟩, _, hk100, _⟩ := right_parts hr
        obtain ⟨kn, rfl⟩ := Int.eq_ofNat_of_zero_le h1
        have hSS : SS = textB kn N T ks := by rw [HS.out, hr]; rfl
        have hl := text_len hr
        rw [← hSS] at hl
        have hp := parse_text hr
        rw [← hSS] at hp
        have RT' := Lib.hid (fun w hI => RT.out w hI kn rfl hr)
        rw [← hSS, OE.out] at RT'
        clear RT
        have hr5 : rightB kn (sel (places kn) 0 N) (sel (txts kn) [] T) (keepOf kn ks) = true := by rw [right_sel]; exact hr
        have hks5 : (keepOf kn ks).length ≤ 1000000 := Nat.le_trans hk100 (by decide)
        have RT5 := Lib.hid (fun w hI => reftext_go kn (by omega) (sel (places kn) 0 N) (sel (txts kn) [] T) (.slice A5 (keepOf kn ks).length c5) (keepOf kn ks) w hI hks5 hr5)
        rw [text_sel, ← hSS, OE5.out] at RT5
        have OW5 := Lib.hid (fun w => own_run kn (sel (places kn) 0 N) (sel (txts kn) [] T) A5 (keepOf kn ks).length c5 w)
        rw [OE5.out] at OW5
        have SM := Lib.hid (fun w kv' (hI' : Ints w 0 kv' (keepOf kn ks)) (hI : Ints w 0 (.slice A5 (keepOf kn ks).length c5) (keepOf kn ks)) => same_run kn (sel (places kn) 0 N) (sel (txts kn) [] T) kv' (.slice A5 (keepOf kn ks).length c5) (keepOf kn ks) w hI' hI hks5 (fun i => by unfold sel; split <;> simp [HT.out i]))
        rw [OE5.out] at SM
        have P := Lib.hid (fun w hm => parse_ok hp hl m w hm)
        have hbool : ∀ w, (binOp .eql 9 (.string ⟨SS.toArray⟩) (.string ⟨SS.toArray⟩)).run Tryd.prog w = .ok (.bool true) w := fun w => by simp [go_sem]
        clear hSS hl hp hr5 hks5 hk100 hr HS HR h1 h2 RI TX CL OW
        go_wp2_with (refine wpList_load_row rfl 27 _ rfl w1.heap.size rfl 27 C (0, 0) _ R8.out.b3 Tryd.underlying27 rfl OS7.out ?_)
        refine (RR.out _ R8.out.i1).mono ?_
        rintro e w9 ⟨rfl, hb9⟩
        have R9 := Lib.hid (R8.out.keep hb9)
        clear hb9
        go_wp2_with fail
        refine (P.out _ R9.out.max).mono ?_
        rintro e w10 ⟨A6, c6, rfl, hI6, hb10⟩
        have hI6' := hI6.mono (Nat.zero_le _)
        clear hI6
        generalize hO6 : aCells kn (sel (places kn) 0 N) (sel (txts kn) [] T) (.slice A6 (keepOf kn ks).length c6) = C6
        have OE6 := Lib.hid hO6
        have O6 := Lib.hid (show (Tryd.prog.info? 24).map (·.size) = some C6.size by rw [← hO6]; exact Tryd.size24)
        have O6' := Lib.hid (And.intro (show zCells.size = C6.size by rw [← hO6]; rfl) (show C6.all (·.oneCell') = true by rw [← hO6]; exact acells_one _ _ _ _ _ _))
        have R10 := Lib.hid (R9.out.keep hb10)
        have hz10 := R10.out.below.size
        clear hb10 hO6
        have b6 : Blk ((w10.alloc (.cells zCells 24)).setRow w10.heap.size C6) w10.heap.size 24 C6 := setRow_heap (w10.alloc (.cells zCells 24)) _ zCells C6 24 (0, 0) (Blk.new w10 24 zCells)
        have hB10 : Below w10.heap.size w10 ((w10.alloc (.cells zCells 24)).setRow w10.heap.size C6) := keep_row ((Below.refl _ _).alloc (Nat.le_refl _) _) (Nat.le_refl _) C6
        have R11 := Lib.hid (And.intro b6 (And.intro (hI6'.below hB10) (R10.out.keep hB10)))
        clear b6 hB10 hI6'
        go_wp2_with (first | (refine wpList_store_row rfl 24 _ _ rfl w10.heap.size C6 rfl rfl 24 zCells (Blk.new w10 24 zCells) O6.out O6'.out.1 O6'.out.2 ?_) | (refine wpList_load_row rfl 27 _ rfl w1.heap.size rfl 27 C (0, 0) _ R11.out.2.2.b3 Tryd.underlying27 rfl OS7.out ?_))
        refine (RT'.out _ R11.out.2.2.i1).mono ?_
        rintro e w12 ⟨rfl, hb12⟩
        have R12 := Lib.hid (And.intro (R11.out.1.below hb12) (And.intro (R11.out.2.1.below hb12) (R11.out.2.2.keep hb12)))
        clear hb12
        go_wp2_with (first | (refine wpList_load_row_w 24 _ rfl ?_ w10.heap.size rfl 24 C6 (0, 0) _ R12.out.1 Tryd.underlying24 rfl O6.out ?_; rfl) | (refine wpList_load_row_w 24 _ rfl ?_ w4.heap.size rfl 24 C5 (0, 0) _ R12.out.2.2.b5 Tryd.underlying24 rfl O5.out ?_; rfl))
        have SM' := SM.out _ _ R12.out.2.1 R12.out.2.2.i5
        rw [OE6.out] at SM'
        refine SM'.mono ?_
        clear SM'
        rintro e w13 ⟨rfl, hb13⟩
        have R13 := Lib.hid (R12.out.2.2.keep hb13)
        clear hb13
        go_wp2_with (refine wpList_load_row_w 24 _ rfl ?_ w4.heap.size rfl 24 C5 (0, 0) _ R13.out.b5 Tryd.underlying24 rfl O5.out ?_; rfl)
        refine (OW5.out _).mono ?_
        rintro e w14 ⟨rfl, hb14⟩
        have R14 := Lib.hid (R13.out.keep hb14)
        clear hb14
        go_wp2_with fail
        refine (RT5.out _ R14.out.i5).mono ?_
        rintro e w15 ⟨rfl, hb15⟩
        have R15 := Lib.hid (R14.out.keep hb15)
        clear hb15
        go_wp2_with fail
        refine (ON.out _ R15.out.max).mono ?_
        rintro e w16 ⟨rfl, hb16⟩
        have R16 := Lib.hid (R15.out.keep hb16)
        clear hb16
        go_wp2_with fail
        go_ret
        exact ⟨rfl, R16.out.below⟩
end Go.Proofs.YtmhhnmbedlhflaaDoor
