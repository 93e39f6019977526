/- May an act be a line? -/
import Derived.Test.YtmhhnmbedlhflaaDoorClean
namespace Go.Proofs.YtmhhnmbedlhflaaDoor
open Go.RowKit

set_option maxRecDepth 100000 in
theorem indexf_run (kv : Value) (ks : List Int) (B : Nat) (w : World) (hI : Ints w B kv ks) (hl : ks.length ≤ 1000000) :
    Calls Tryd.prog 41 #[kv, .func (.func 27) #[] #[]] w fun e w' => (∃ i : Int, e = .returned (.int .i64 i) ∧ (decide (0 ≤ i) = !ks.all small)) ∧ w' = w := by
  obtain ⟨A, c, rfl, h⟩ := hI
  have H := Lib.hid h
  clear h
  have hl' : (ks.length : Int) ≤ 1000000 := by omega
  go_enter Tryd.func41, Tryd.ntmps41
  go_wp2_with fail
  go_loopg [8] ks.length (fun gk ii wr => ∃ j : Nat, j ≤ ks.length ∧ gk = ks.length - j ∧ ii = .int .i64 (j : Int) ∧ (ks.take j).all small = true ∧ wr = w)
  case atStart => exact ⟨0, Nat.zero_le _, by omega, rfl, by simp, rfl⟩
  case round =>
    obtain ⟨j, hjn, rfl, rfl, ha, rfl⟩ := hrel
    by_cases hlt : j < ks.length
    · have hlt' : (j : Int) < (ks.length : Int) := by omega
      obtain ⟨n, hn⟩ : ∃ n, ks[j]? = some n := ⟨_, List.getElem?_eq_getElem hlt⟩
      obtain ⟨b, off, rfl, _, _, hc⟩ := H.out (by omega)
      have x1 := hc j n hn
      have hnext : (ks.take (j + 1)).all small = small n := by rw [List.take_add_one, hn, List.all_append, ha]; simp
      have hmem := List.mem_of_getElem? hn
      have HN := Lib.hid hnext
      have HM := Lib.hid hmem
      have c1 := Lib.hid (right1_run n wr)
      clear hc hn ha hnext hmem
      cases hs : small n
      · have HS := Lib.hid hs
        have c2 : (!(decide (0 ≤ n) && decide (n < 2147483648))) = true := by show (!small n) = true; rw [hs]; rfl
        rw [c2] at c1
        clear hs c2
        go_wp2_with fail
        refine c1.out.mono ?_
        rintro e w' ⟨rfl, hw⟩
        obtain rfl := hw.symm
        go_wp2_with fail
        go_ret
        refine ⟨⟨(j : Int), rfl, ?_⟩, rfl⟩
        have : ks.all small = false := by rw [List.all_eq_false]; exact ⟨n, HM.out, by rw [HS.out]; simp⟩
        rw [this]
        simp
      · have HS := Lib.hid hs
        have c2 : (!(decide (0 ≤ n) && decide (n < 2147483648))) = false := by show (!small n) = false; rw [hs]; rfl
        rw [c2] at c1
        clear hs c2
        go_wp2_with fail
        refine c1.out.mono ?_
        rintro e w' ⟨rfl, hw⟩
        obtain rfl := hw.symm
        go_wp2_with fail
        go_roundg (ks.length - (j + 1))
        case measure => omega
        case rel => exact ⟨j + 1, by omega, rfl, by go_num, by rw [HN.out, HS.out], rfl⟩
    · obtain rfl : ks.length = j := by omega
      rw [List.take_length] at ha
      have HA := Lib.hid ha
      clear ha
      go_wp2_with fail
      go_ret
      exact ⟨⟨-1, rfl, by rw [HA.out]; rfl⟩, rfl⟩
theorem contf_run (kv : Value) (ks : List Int) (B : Nat) (w : World) (hI : Ints w B kv ks) (hl : ks.length ≤ 1000000) :
    Calls Tryd.prog 26 #[kv, .func (.func 27) #[] #[]] w fun e w' => e = .returned (.bool (!ks.all small)) ∧ w' = w := by
  have H := Lib.hid (indexf_run kv ks B w hI hl)
  clear hI
  go_enter Tryd.func26, Tryd.ntmps26
  go_wp2_with fail
  refine H.out.mono ?_
  rintro e w' ⟨⟨i, rfl, hi⟩, hw⟩
  obtain rfl := hw.symm
  have HI := Lib.hid hi
  clear hi
  go_wp2_with fail
  go_ret
  rw [← HI.out]
  exact ⟨rfl, rfl⟩
theorem sel_len {l : List Nat} {T : Nat → Bs} {i : Nat} (h : ¬ 200 < (sel l [] T i).length) (hi : i ∈ l) : (T i).length ≤ 200 := by
  unfold sel at h
  rw [if_pos hi] at h
  omega
set_option maxHeartbeats 2000000 in
set_option maxRecDepth 100000 in
theorem right_run (k : Int) (N : Nat → Int) (T : Nat → Bs) (kv : Value) (ks : List Int) (w : World) (hI : Ints w 0 kv ks) (hl : ks.length ≤ 1000000) :
    Calls Tryd.prog 9 #[.agg (aCells k N T kv)] w fun e w' => e = .returned (.bool (rightB k N T ks)) ∧ Below w.heap.size w w' := by
  have CL := Lib.hid (fun w' (hb : Below w.heap.size w w') => clean_run k N T kv ks w' (hI.below hb) hl)
  have h1 := acells_size k N T kv
  generalize aCells k N T kv = cs at CL h1
  have H1 := Lib.hid h1
  clear h1 hI
  go_enter Tryd.func9, Tryd.ntmps9
  go_wp2_with (refine wpList_load_row rfl 24 _ rfl w.heap.size rfl 24 cs (0, 0) _ (heap_alloc_new w _) Tryd.underlying24 rfl (by rw [H1.out]; exact Tryd.size24) ?_)
  refine (CL.out _ ((Below.refl _ _).alloc (Nat.le_refl _) _)).mono ?_
  rintro e w1 ⟨kv', rfl, hk, hb1⟩
  have b1 := Blk.of_block (Blk.new w 24 cs) (hb1.block w.heap.size (by simp))
  have hB := Below.trans ((Below.refl w.heap.size w).alloc (Nat.le_refl _) (.cells cs 24)) (hb1.mono (by simp))
  obtain ⟨A', c', rfl, hkk⟩ := hk
  generalize hO : aCells k (sel (places k) 0 N) (sel (txts k) [] T) (.slice A' (keepOf k ks).length c') = O
  have hos : O.size = 9 := by rw [← hO]; rfl
  have hone : O.all (·.oneCell') = true := by rw [← hO]; exact acells_one _ _ _ _ _ _
  have HS := Lib.hid (And.intro H1.out (And.intro hos hone))
  have b2 : Blk (w1.setRow w.heap.size O) w.heap.size 24 O := setRow_heap w1 _ cs O 24 (0, 0) b1
  have hB2 := keep_row (g := w.heap.size) hB (Nat.le_refl _) O
  have y0 : (w1.setRow w.heap.size O).cell? ⟨w.heap.size, 0, none⟩ = some (.int .i64 k) := by rw [b2.cell, ← hO]; rfl
  have y6 : (w1.setRow w.heap.size O).cell? ⟨w.heap.size, 6, none⟩ = some (.string ⟨(sel (txts k) [] T 6).toArray⟩) := by rw [b2.cell, ← hO]; rfl
  have y7 : (w1.setRow w.heap.size O).cell? ⟨w.heap.size, 7, none⟩ = some (.string ⟨(sel (txts k) [] T 7).toArray⟩) := by rw [b2.cell, ← hO]; rfl
  have y8 : (w1.setRow w.heap.size O).cell? ⟨w.heap.size, 8, none⟩ = some (.slice A' (keepOf k ks).length c') := by rw [b2.cell, ← hO]; rfl
  have hI2 : Ints (w1.setRow w.heap.size O) (w.heap.size + 1) (.slice A' (keepOf k ks).length c') (keepOf k ks) := by
    refine Ints.of_block (w := w1) ⟨A', c', rfl, ?_⟩ (by rw [setRow_size]; exact Nat.le_refl _) (fun g hg _ => setRow_other _ _ _ _ (by omega))
    simpa using hkk
  have HI := Lib.hid hI2
  have HB1 := Lib.hid b1
  have HB2 := Lib.hid hB2
  have HO := Lib.hid hO
  have BL := Lib.hid b2
  clear hos hone hO b1 b2 hB hB2 hkk hI2 hb1
  generalize hK : keepOf k ks = K at HI y8 HO
  generalize hT6 : sel (txts k) [] T 6 = T6 at y6
  generalize hT7 : sel (txts k) [] T 7 = T7 at y7
  have HK := Lib.hid hK
  have HT6 := Lib.hid hT6
  have HT7 := Lib.hid hT7
  clear hK hT6 hT7
  by_cases good : (0 ≤ k ∧ k ≤ 12) ∧ T6.length ≤ 200 ∧ T7.length ≤ 200 ∧ K.length ≤ 100
  · obtain ⟨⟨g1, g2⟩, g3, g4, g5⟩ := good
    have f1 : ¬ k < 0 := by omega
    have f2 : ¬ 12 < k := by omega
    have f3 : ¬ (200 : Int) < (T6.length : Int) := by omega
    have f4 : ¬ (200 : Int) < (T7.length : Int) := by omega
    have f5 : ¬ (100 : Int) < (K.length : Int) := by omega
    go_wp2_with (refine wpList_store_row rfl 24 _ _ rfl w.heap.size O rfl rfl 24 cs HB1.out (by rw [HS.out.2.1]; exact Tryd.size24) (by rw [HS.out.1, HS.out.2.1]) HS.out.2.2 ?_)
    refine (parts_run w.heap.size k _ y0).mono ?_
    rintro e w2 ⟨v2, rfl, hp2, hb2⟩
    obtain ⟨A2, rfl⟩ := hp2.len
    have hgood : rightB k N T ks = ((places k).all (fun i => small (N i)) && K.all small) := by
      rw [rightB_eq, HK.out, HT6.out, HT7.out, decide_eq_true ⟨⟨g1, g2⟩, g3, g4, g5⟩, Bool.true_and]
    have HGd := Lib.hid hgood
    have P2 := Lib.hid hp2
    have BL2 := Lib.hid (BL.out.below hb2)
    have HI2 := Lib.hid (HI.out.below hb2)
    have HB3 := Lib.hid (HB2.out.trans (hb2.mono HB2.out.size))
    clear hp2 hb2 hgood
    have hnl := places_len k
    have hnl' : ((places k).length : Int) ≤ 4 := by omega
    clear y0 y6 y7 y8
    go_wp2_with fail
    go_loopg [35] (places k).length (fun gk ii wr => ∃ j : Nat, j ≤ (places k).length ∧ gk = (places k).length - j ∧ ii = .int .i64 (j : Int) ∧ ((places k).take j).all (fun i => small (N i)) = true ∧ wr = w2)
    case atStart => exact ⟨0, Nat.zero_le _, by omega, rfl, by simp, rfl⟩
    case round =>
      obtain ⟨j, hjn, rfl, rfl, ha, rfl⟩ := hrel
      by_cases hlt : j < (places k).length
      · obtain ⟨i, hi⟩ : ∃ i, (places k)[j]? = some i := ⟨_, List.getElem?_eq_getElem hlt⟩
        have hlt' : (j : Int) < ((places k).length : Int) := by omega
        have hpi := places_in (List.mem_of_getElem? hi)
        obtain ⟨gg, e2, _, _, x2⟩ := P2.out.get hi
        injection e2 with e2 _ _
        subst e2
        have x3 : wr.cell? ⟨w.heap.size, i, none⟩ = some (.int .i64 (N i)) := by
          rw [BL2.out.cell, ← HO.out, acells_num _ _ _ _ hpi]
          unfold sel
          rw [if_pos (List.mem_of_getElem? hi)]
        have hnext : ((places k).take (j + 1)).all (fun i => small (N i)) = small (N i) := by rw [List.take_add_one, hi, List.all_append, ha]; simp
        have HM := Lib.hid (List.mem_of_getElem? hi)
        have HN := Lib.hid hnext
        have c1 := Lib.hid (small_run (N i) wr)
        clear hi hpi ha hnext
        cases hs : small (N i)
        · have HS' := Lib.hid hs
          have c2 : (decide (0 ≤ N i) && decide (N i < 2147483648)) = false := hs
          rw [c2] at c1
          clear hs c2
          go_wp2_with fail
          refine c1.out.mono ?_
          rintro e w' ⟨rfl, hw⟩
          obtain rfl := hw.symm
          go_wp2_with fail
          go_ret
          have e : (places k).all (fun i => small (N i)) = false := by rw [List.all_eq_false]; exact ⟨i, HM.out, by rw [HS'.out]; simp⟩
          rw [HGd.out, e]
          exact ⟨rfl, HB3.out⟩
        · have HS' := Lib.hid hs
          have c2 : (decide (0 ≤ N i) && decide (N i < 2147483648)) = true := hs
          rw [c2] at c1
          clear hs c2
          go_wp2_with fail
          refine c1.out.mono ?_
          rintro e w' ⟨rfl, hw⟩
          obtain rfl := hw.symm
          go_wp2_with fail
          go_roundg ((places k).length - (j + 1))
          case measure => omega
          case rel => exact ⟨j + 1, by omega, rfl, by go_num, by rw [HN.out, HS'.out], rfl⟩
      · obtain rfl : (places k).length = j := by omega
        rw [List.take_length] at ha
        have HA := Lib.hid ha
        have x8 : wr.cell? ⟨w.heap.size, 8, none⟩ = some (.slice A' K.length c') := by rw [BL2.out.cell, ← HO.out]; rfl
        clear ha
        go_wp2_with fail
        refine (contf_run _ K _ wr HI2.out (by omega)).mono ?_
        rintro e w' ⟨rfl, hw⟩
        obtain rfl := hw.symm
        go_wp2_with fail
        go_ret
        rw [HGd.out, HA.out]
        exact ⟨by simp, HB3.out⟩
  · have bad : rightB k N T ks = false := by
      rw [rightB_eq, HK.out, HT6.out, HT7.out, decide_eq_false good, Bool.false_and]
    have HBad := Lib.hid bad
    have HG := Lib.hid good
    clear bad good
    go_wp2_with (refine wpList_store_row rfl 24 _ _ rfl w.heap.size O rfl rfl 24 cs HB1.out (by rw [HS.out.2.1]; exact Tryd.size24) (by rw [HS.out.1, HS.out.2.1]) HS.out.2.2 ?_)
    all_goals first
      | (go_ret; rw [HBad.out]; exact ⟨rfl, HB2.out⟩)
      | (exfalso; have := HG.out; omega)
end Go.Proofs.YtmhhnmbedlhflaaDoor
