/- A line that is known. -/
import Derived.Test.YtmhhnmbedlhflaaDoorParseA
import Derived.Test.YtmhhnmbedlhflaaDoorRefTold
namespace Go.Proofs.YtmhhnmbedlhflaaDoor
open Go.RowKit

theorem parse_ok {s : Bs} {k : Nat} {N : Nat → Int} {T : Nat → Bs} {ks : List Int} (hp : parseO s = some (k, N, T, ks)) (hl : s.length ≤ 900000) (m : Int) (w : World) (hm : w.cell? ⟨0, 0, none⟩ = some (.int .i64 m)) :
    Calls Tryd.prog 12 #[.string ⟨s.toArray⟩] w fun e w' => ∃ A c, e = .returned (.tuple #[.agg (aCells (k : Int) N T (.slice A ks.length c)), .int .i64 0]) ∧ Ints w' w.heap.size (.slice A ks.length c) ks ∧ Below w.heap.size w w' := by
  refine (parse_walk s hl m w hm).mono ?_
  rintro e w' ⟨⟨k', N', T', ks', kv, err, rfl, hI, h⟩, hb⟩
  rcases h with ⟨rfl, h0, h⟩ | ⟨_, h, _⟩
  · rw [hp] at h
    simp only [Option.some.injEq, Prod.mk.injEq] at h
    obtain ⟨rfl, rfl, rfl, rfl⟩ := h
    obtain ⟨kn, rfl⟩ := Int.eq_ofNat_of_zero_le h0
    have hI' := hI
    obtain ⟨A, c, rfl, _⟩ := hI
    exact ⟨A, c, rfl, hI', hb⟩
  · rw [hp] at h; cases h
theorem parse_bad {s : Bs} (hp : parseO s = none) (hl : s.length ≤ 900000) (m : Int) (w : World) (hm : w.cell? ⟨0, 0, none⟩ = some (.int .i64 m)) :
    Calls Tryd.prog 12 #[.string ⟨s.toArray⟩] w fun e w' => ∃ A c, e = .returned (.tuple #[.agg (aCells 0 (fun _ => 0) (fun _ => []) (.slice A 0 c)), .int .i64 30]) ∧ Ints w' w.heap.size (.slice A 0 c) [] ∧ Below w.heap.size w w' := by
  refine (parse_walk s hl m w hm).mono ?_
  rintro e w' ⟨⟨k', N', T', ks', kv, err, rfl, hI, h⟩, hb⟩
  rcases h with ⟨rfl, h0, h⟩ | ⟨rfl, _, rfl, rfl, rfl, rfl⟩
  · rw [hp] at h; cases h
  · have hI' := hI
    obtain ⟨A, c, rfl, _⟩ := hI
    exact ⟨A, c, rfl, hI', hb⟩
def sOne : Bs := [115, 112, 111, 105, 108, 32, 51, 32, 53, 48, 32, 49]
def sTwo : Bs := [102, 97, 108, 108, 32, 48, 32, 50, 53, 54, 32, 55]
def nOne : Nat → Int := upd (upd (upd (fun _ => 0) 3 3) 2 50) 4 1
def nTwo : Nat → Int := upd (fun _ => 0) 1 0
theorem pOne : parseO sOne = some (6, nOne, (fun _ => []), []) := by kernel_rfl
theorem pTwo : parseO sTwo = some (12, nTwo, (fun _ => []), [256, 7]) := by kernel_rfl
theorem tTwo : textB (12 : Nat) nTwo (fun _ => []) [256, 7] = sTwo := (parse_some pTwo).2.1
theorem rTwo : rightB (12 : Nat) nTwo (fun _ => []) [256, 7] = true := (parse_some pTwo).1
theorem tThree : Lib.join (toldW 0 2 (List.replicate 32 0) 0) [32] = [111, 107, 32, 110, 32, 50] := by
  have h : digs 2 = [50] := by rw [digs_small (by decide)]; rfl
  unfold toldW toldA toldN toldI toldF
  rw [if_pos rfl, if_neg (by decide), if_pos rfl, if_pos rfl, h]
  rfl
set_option maxHeartbeats 4000000 in
set_option maxRecDepth 100000 in
theorem one_run (m : Int) (w : World) (hm : w.cell? ⟨0, 0, none⟩ = some (.int .i64 m)) :
    Calls Tryd.prog 11 #[] w fun e w' => e = .returned (.bool true) ∧ Below w.heap.size w w' := by
  have hh0 := World.block_lt_of_cell? w _ hm
  simp at hh0
  have P1 := Lib.hid (fun w hm => parse_ok pOne (by decide) m w hm)
  have P2 := Lib.hid (fun w hm => parse_ok pTwo (by decide) m w hm)
  have HM := Lib.hid hm
  clear hm
  go_enter Tryd.func11, Tryd.ntmps11
  go_wp2_with fail
  refine (P1.out _ HM.out).mono ?_
  rintro e w1 ⟨A1, c1, rfl, hI1, hb1⟩
  have HM1 := Lib.hid ((hb1.cell (p := ⟨0, 0, none⟩) hh0).trans HM.out)
  have HB1 := Lib.hid hb1
  have HI1 := Lib.hid hI1
  have hz1 := hb1.size
  clear hb1 hI1
  generalize hO1 : aCells ((6 : Nat) : Int) nOne (fun _ => []) (.slice A1 ([] : List Int).length c1) = O1
  have OE1 := Lib.hid hO1
  have OS1 := Lib.hid (show (Tryd.prog.info? 24).map (·.size) = some O1.size by rw [← hO1]; exact Tryd.size24)
  have OS1' := Lib.hid (And.intro (show zCells.size = O1.size by rw [← hO1]; rfl) (show O1.all (·.oneCell') = true by rw [← hO1]; exact acells_one _ _ _ _ _ _))
  clear hO1
  go_wp2_with (refine wpList_store_row rfl 24 _ _ rfl w1.heap.size O1 rfl rfl 24 zCells (Blk.new w1 24 zCells) OS1.out OS1'.out.1 OS1'.out.2 ?_)
  have b2 : Blk ((w1.alloc (.cells zCells 24)).setRow w1.heap.size O1) w1.heap.size 24 O1 := setRow_heap (w1.alloc (.cells zCells 24)) _ zCells O1 24 (0, 0) (Blk.new w1 24 zCells)
  have hB2 : Below w.heap.size w ((w1.alloc (.cells zCells 24)).setRow w1.heap.size O1) := keep_row (HB1.out.alloc hz1 _) hz1 O1
  have hz2 : w1.heap.size + 1 ≤ ((w1.alloc (.cells zCells 24)).setRow w1.heap.size O1).heap.size := by rw [setRow_size]; simp
  have hI2 : Ints ((w1.alloc (.cells zCells 24)).setRow w1.heap.size O1) 0 (.slice A1 ([] : List Int).length c1) [] := ⟨A1, c1, rfl, fun h => by simp at h⟩
  have X2 := Lib.hid (And.intro b2 (And.intro hB2 (And.intro hI2 hz2)))
  refine (P2.out _ ((hB2.cell (p := ⟨0, 0, none⟩) hh0).trans HM.out)).mono ?_
  clear b2 hB2 hI2 hz2
  rintro e w3 ⟨A3, c3, rfl, hI3, hb3⟩
  have HB3 := Lib.hid hb3
  have HI3 := Lib.hid hI3
  have hz3 : w1.heap.size + 1 ≤ w3.heap.size := Nat.le_trans X2.out.2.2.2 hb3.size
  clear hb3 hI3
  generalize hO3 : aCells ((12 : Nat) : Int) nTwo (fun _ => []) (.slice A3 ([256, 7] : List Int).length c3) = O3
  have OE3 := Lib.hid hO3
  have OS3 := Lib.hid (show (Tryd.prog.info? 24).map (·.size) = some O3.size by rw [← hO3]; exact Tryd.size24)
  have OS3' := Lib.hid (And.intro (show zCells.size = O3.size by rw [← hO3]; rfl) (show O3.all (·.oneCell') = true by rw [← hO3]; exact acells_one _ _ _ _ _ _))
  clear hO3
  have b1 : Blk ((w3.alloc (.cells zCells 24)).setRow w3.heap.size O3) w1.heap.size 24 O1 := ((X2.out.1.below HB3.out).alloc (.cells zCells 24)).of_block (setRow_other _ _ _ _ (by omega))
  have b3 : Blk ((w3.alloc (.cells zCells 24)).setRow w3.heap.size O3) w3.heap.size 24 O3 := setRow_heap (w3.alloc (.cells zCells 24)) _ zCells O3 24 (0, 0) (Blk.new w3 24 zCells)
  have hB4 : Below w.heap.size w ((w3.alloc (.cells zCells 24)).setRow w3.heap.size O3) := keep_row ((X2.out.2.1.trans (HB3.out.mono (by have := X2.out.2.2.2; omega))).alloc (by omega) _) (by omega) O3
  have hI4 : Ints ((w3.alloc (.cells zCells 24)).setRow w3.heap.size O3) 0 (.slice A1 ([] : List Int).length c1) [] := ⟨A1, c1, rfl, fun h => by simp at h⟩
  have hI5 : Ints ((w3.alloc (.cells zCells 24)).setRow w3.heap.size O3) 0 (.slice A3 ([256, 7] : List Int).length c3) [256, 7] :=
    (Ints.of_block (w := w3) HI3.out (by rw [setRow_size]; simp) (fun g _ hg => by rw [setRow_other _ _ _ _ (by omega)]; exact Below.heap_alloc _ _ _ hg)).mono (Nat.zero_le _)
  have X4 := Lib.hid (And.intro b1 (And.intro b3 (And.intro hB4 (And.intro hI4 (And.intro hI5 (show w3.heap.size + 1 ≤ ((w3.alloc (.cells zCells 24)).setRow w3.heap.size O3).heap.size by rw [setRow_size]; simp))))))
  clear b1 b3 hB4 hI4 hI5
  go_wp2_with (first | (refine wpList_store_row rfl 24 _ _ rfl w3.heap.size O3 rfl rfl 24 zCells (Blk.new w3 24 zCells) OS3.out OS3'.out.1 OS3'.out.2 ?_) | (refine wpList_load_row_w 24 _ rfl ?_ w1.heap.size rfl 24 O1 (0, 0) _ X4.out.1 Tryd.underlying24 rfl OS1.out ?_; rfl))
  have SM := same_run ((6 : Nat) : Int) nOne (fun _ => []) (.slice A1 ([] : List Int).length c1) (.slice none 0 0) [] _ X4.out.2.2.2.1 (Ints.nil _ _) (by decide) (fun _ => by simp)
  rw [OE1.out] at SM
  have hz4 := X4.out.2.2.1.size
  refine SM.mono ?_
  clear SM
  rintro e w5 ⟨rfl, hb5⟩
  have HB5 := Lib.hid (X4.out.2.2.1.trans (hb5.mono hz4))
  have B35 := Lib.hid (X4.out.2.1.below hb5)
  have hI5 := X4.out.2.2.2.2.1.below hb5
  have TX := text_run ((12 : Nat) : Int) nTwo (fun _ => []) (.slice A3 ([256, 7] : List Int).length c3) [256, 7] w5 hI5 (by decide)
  rw [OE3.out, rTwo, if_pos rfl, tTwo] at TX
  have HTX := Lib.hid TX
  have hz5 := hb5.size
  clear hb5 hI5 TX
  go_wp2_with (refine wpList_load_row_w 24 _ rfl ?_ w3.heap.size rfl 24 O3 (0, 0) _ B35.out Tryd.underlying24 rfl OS3.out ?_; rfl)
  refine HTX.out.mono ?_
  rintro e w6 ⟨rfl, hb6⟩
  have HB6 := Lib.hid (HB5.out.trans (hb6.mono (by omega)))
  have hz6 := hb6.size
  have hTL := told_run 0 2 (List.replicate 32 0) 0 (by decide) (by decide) (by decide) (by simp) w6
  rw [tThree] at hTL
  have TL := Lib.hid hTL
  clear hb6 hTL
  go_wp2_with fail
  refine TL.out.mono ?_
  rintro e w7 ⟨rfl, hb7⟩
  have HB7 := Lib.hid (HB6.out.trans (hb7.mono (by omega)))
  clear hb7
  go_wp2_with fail
  go_ret
  exact ⟨rfl, HB7.out⟩
end Go.Proofs.YtmhhnmbedlhflaaDoor
