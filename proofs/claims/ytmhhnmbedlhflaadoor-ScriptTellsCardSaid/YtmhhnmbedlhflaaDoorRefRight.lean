/- The document's Right. -/
import Derived.Test.YtmhhnmbedlhflaaDoorHas
namespace Go.Proofs.YtmhhnmbedlhflaaDoor
open Go.RowKit

theorem refright_out (k : Int) (N : Nat → Int) (T : Nat → Bs) (kv : Value) (ks : List Int) (w : World) (hk : k < 0 ∨ 12 < k) :
    Calls Tryd.prog 10 #[.agg (aCells k N T kv)] w fun e w' => e = .returned (.bool (rightB k N T ks)) ∧ Below w.heap.size w w' := by
  have hr : rightB k N T ks = false := by
    rw [rightB_eq, decide_eq_false (by omega), Bool.false_and]
  rw [hr]
  have hc0 : (aCells k N T kv)[0]? = some (.int .i64 k) := rfl
  generalize aCells k N T kv = cs at hc0
  have HB := Lib.hid ((Below.refl w.heap.size w).alloc (Nat.le_refl _) (.cells cs 27))
  clear hr
  rcases hk with h | h
  · go_enter Tryd.func10, Tryd.ntmps10
    go_wp2_with fail
    go_ret
    exact ⟨rfl, HB.out⟩
  · have h' : ¬ k < 0 := by omega
    go_enter Tryd.func10, Tryd.ntmps10
    go_wp2_with fail
    go_ret
    exact ⟨rfl, HB.out⟩
set_option maxHeartbeats 2000000 in
set_option maxRecDepth 100000 in
theorem refright_in (kn : Nat) (hk12 : kn ≤ 12) (N : Nat → Int) (T : Nat → Bs) (kv : Value) (ks : List Int) (w : World) (hI : Ints w 0 kv ks) (hl : ks.length ≤ 1000000) (hT : ∀ i, (T i).length ≤ 1000000) :
    Calls Tryd.prog 10 #[.agg (aCells kn N T kv)] w fun e w' => e = .returned (.bool (rightB kn N T ks)) ∧ Below w.heap.size w w' := by
  have hc0 : (aCells kn N T kv)[0]? = some (.int .i64 (kn : Int)) := rfl
  have hc6 : (aCells kn N T kv)[6]? = some (.string ⟨(T 6).toArray⟩) := rfl
  have hc7 : (aCells kn N T kv)[7]? = some (.string ⟨(T 7).toArray⟩) := rfl
  have hc8 : (aCells kn N T kv)[8]? = some kv := rfl
  have hcN := fun i (h : 1 ≤ i ∧ i ≤ 5) => acells_num kn N T kv h
  obtain ⟨A0, c0, rfl, hA0⟩ := hI
  generalize aCells kn N T (.slice A0 ks.length c0) = cs at hc0 hc6 hc7 hc8 hcN
  have HCN := Lib.hid hcN
  have HA0 := Lib.hid hA0
  have f1 : ¬ (kn : Int) < 0 := by omega
  have f2 : ¬ (12 : Int) < (kn : Int) := by omega
  clear hcN hA0
  go_enter Tryd.func10, Tryd.ntmps10
  go_wp2_with fail
  refine (has_run kn _).mono ?_
  rintro e w1 ⟨v1, rfl, hi1, hb1⟩
  have HB := Lib.hid (Below.trans ((Below.refl w.heap.size w).alloc (Nat.le_refl _) (.cells cs 27)) (hb1.mono (by simp)))
  have BL := Lib.hid (Blk.of_block (Blk.new w 27 cs) (hb1.block w.heap.size (by simp)))
  obtain ⟨A1, c1, rfl, hI1⟩ := hi1
  have HI1 := Lib.hid hI1
  have y0 := (BL.out.cell 0).trans hc0
  have y6 := (BL.out.cell 6).trans hc6
  have y7 := (BL.out.cell 7).trans hc7
  have y8 := (BL.out.cell 8).trans hc8
  have hl1 : (hasL kn).length = (places kn).length := by simp [hasL]
  have hl2 := places_len kn
  have hl3 : ((hasL kn).length : Int) ≤ 4 := by omega
  clear hb1 hI1
  go_wp2_with fail
  go_loopg [4] (hasL kn).length (fun gk ii wr => ∃ j : Nat, j ≤ (hasL kn).length ∧ gk = (hasL kn).length - j ∧ ii = .int .i64 (j : Int) ∧ ((places kn).take j).all (fun i => small (N i)) = true ∧ wr = w1)
  case atStart => exact ⟨0, Nat.zero_le _, by omega, rfl, by simp, rfl⟩
  case round =>
    obtain ⟨j, hjn, rfl, rfl, ha, rfl⟩ := hrel
    by_cases hlt : j < (hasL kn).length
    · obtain ⟨i, hi⟩ : ∃ i, (places kn)[j]? = some i := ⟨_, List.getElem?_eq_getElem (by omega)⟩
      have hlt' : (j : Int) < ((hasL kn).length : Int) := by omega
      have hmem := List.mem_of_getElem? hi
      have hpi := places_in hmem
      obtain ⟨m, rfl⟩ : ∃ m, i = m + 1 := ⟨i - 1, by omega⟩
      have hh : (hasL kn)[j]? = some (m : Int) := by simp [hasL, hi]
      obtain ⟨b1, off1, rfl, _, _, hcI⟩ := HI1.out (by omega)
      have x1 := hcI j _ hh
      have x2 : wr.cell? ⟨w.heap.size, 1 + m, none⟩ = some (.int .i64 (N (m + 1))) := by rw [BL.out.cell, Nat.add_comm]; exact HCN.out _ hpi
      have hm5 : (m : Int) < 5 := by omega
      have hnext : ((places kn).take (j + 1)).all (fun i => small (N i)) = small (N (m + 1)) := by rw [List.take_add_one, hi, List.all_append, ha]; simp
      have HN := Lib.hid hnext
      have HM := Lib.hid hmem
      have HP := Lib.hid hpi
      clear hcI hi hmem hpi hh hnext ha
      generalize hz : N (m + 1) = z at x2
      have HZ := Lib.hid hz
      clear hz
      by_cases s0 : z < 0
      · have bad : rightB kn N T ks = false := by
          have e : (places kn).all (fun i => small (N i)) = false := by
            rw [List.all_eq_false]; exact ⟨m + 1, HM.out, by rw [HZ.out]; unfold small; rw [decide_eq_false (by omega : ¬ 0 ≤ z)]; simp⟩
          rw [rightB_eq, e, Bool.false_and, Bool.and_false]
        have HBad := Lib.hid bad
        clear bad
        go_wp2_with fail
        go_ret
        rw [HBad.out]
        exact ⟨rfl, HB.out⟩
      · by_cases s1 : (2147483648 : Int) ≤ z
        · have bad : rightB kn N T ks = false := by
            have e : (places kn).all (fun i => small (N i)) = false := by
              rw [List.all_eq_false]; exact ⟨m + 1, HM.out, by rw [HZ.out]; unfold small; rw [decide_eq_false (by omega : ¬ z < 2147483648)]; simp⟩
            rw [rightB_eq, e, Bool.false_and, Bool.and_false]
          have HBad := Lib.hid bad
          clear bad
          go_wp2_with fail
          go_ret
          rw [HBad.out]
          exact ⟨rfl, HB.out⟩
        · have hs : small z = true := by unfold small; rw [decide_eq_true (by omega), decide_eq_true (by omega)]; rfl
          have HS := Lib.hid hs
          clear hs
          go_wp2_with fail
          go_roundg ((hasL kn).length - (j + 1))
          case measure => omega
          case rel => exact ⟨j + 1, by omega, rfl, by go_num, by rw [HN.out, HZ.out, HS.out], rfl⟩
    · obtain rfl : (hasL kn).length = j := by omega
      rw [hl1, List.take_length] at ha
      rcases (by omega : kn = 0 ∨ kn = 7 ∨ kn = 12 ∨ (kn ≠ 0 ∧ kn ≠ 7 ∧ kn ≠ 12)) with rfl | rfl | rfl | hne
      · have z0 : wr.cell? ⟨w.heap.size, 0, none⟩ = some (.int .i64 0) := y0
        have ha' : (places (0 : Int)).all (fun i => small (N i)) = true := ha
        clear y0 hc0 ha
        by_cases b6 : (200 : Int) < ((T 6).length : Int)
        · skip
          have bad : rightB (0 : Int) N T ks = false := by
            unfold rightB
            have e : (txts (0 : Int)).all (fun i => decide ((T i).length ≤ 200)) = false := by
              rw [List.all_eq_false]; exact ⟨6, by decide, by rw [decide_eq_false (by omega)]; simp⟩
            rw [e]; simp
          have HBad := Lib.hid bad
          clear bad
          go_wp2_with fail
          go_ret
          refine ⟨?_, HB.out⟩
          show Ending.returned (Value.bool false) = Ending.returned (Value.bool (rightB (0 : Int) N T ks))
          rw [HBad.out]
        · by_cases b7 : (200 : Int) < ((T 7).length : Int)
          · skip
            have bad : rightB (0 : Int) N T ks = false := by
              unfold rightB
              have e : (txts (0 : Int)).all (fun i => decide ((T i).length ≤ 200)) = false := by
                rw [List.all_eq_false]; exact ⟨7, by decide, by rw [decide_eq_false (by omega)]; simp⟩
              rw [e]; simp
            have HBad := Lib.hid bad
            clear bad
            go_wp2_with fail
            go_ret
            refine ⟨?_, HB.out⟩
            show Ending.returned (Value.bool false) = Ending.returned (Value.bool (rightB (0 : Int) N T ks))
            rw [HBad.out]
          · skip
            have good : rightB (0 : Int) N T ks = true := by
              rw [rightB_eq]
              have e1 : (sel (txts (0 : Int)) [] T 6) = T 6 := rfl
              have e2 : (sel (txts (0 : Int)) [] T 7) = T 7 := rfl
              have e3 : keepOf (0 : Int) ks = [] := rfl
              rw [e1, e2, e3, ha', decide_eq_true (by simp; omega)]
              rfl
            clear ha'
            have HGood := Lib.hid good
            clear good
            go_wp2_with fail
            obtain ⟨wo, rfl⟩ : ∃ wo : World, wo = wr := ⟨_, rfl⟩
            go_loopg [5] 0 (fun gk ii wr => gk = 0 ∧ ii = .int .i64 0 ∧ wr = wo)
            case atStart => exact ⟨rfl, rfl, rfl⟩
            case round =>
              obtain ⟨rfl, rfl, rfl⟩ := hrel
              go_wp2_with fail
              go_ret
              refine ⟨?_, HB.out⟩
              show Ending.returned (Value.bool true) = Ending.returned (Value.bool (rightB (0 : Int) N T ks))
              rw [HGood.out]
      · have z0 : wr.cell? ⟨w.heap.size, 0, none⟩ = some (.int .i64 7) := y0
        have ha' : (places (7 : Int)).all (fun i => small (N i)) = true := ha
        clear y0 hc0 ha
        by_cases b6 : (200 : Int) < ((T 6).length : Int)
        · skip
          have bad : rightB (7 : Int) N T ks = false := by
            unfold rightB
            have e : (txts (7 : Int)).all (fun i => decide ((T i).length ≤ 200)) = false := by
              rw [List.all_eq_false]; exact ⟨6, by decide, by rw [decide_eq_false (by omega)]; simp⟩
            rw [e]; simp
          have HBad := Lib.hid bad
          clear bad
          go_wp2_with fail
          go_ret
          refine ⟨?_, HB.out⟩
          show Ending.returned (Value.bool false) = Ending.returned (Value.bool (rightB (7 : Int) N T ks))
          rw [HBad.out]
        · skip
          have good : rightB (7 : Int) N T ks = true := by
            rw [rightB_eq]
            have e1 : (sel (txts (7 : Int)) [] T 6) = T 6 := rfl
            have e2 : (sel (txts (7 : Int)) [] T 7) = [] := rfl
            have e3 : keepOf (7 : Int) ks = [] := rfl
            rw [e1, e2, e3, ha', decide_eq_true (by simp; omega)]
            rfl
          clear ha'
          have HGood := Lib.hid good
          clear good
          go_wp2_with fail
          obtain ⟨wo, rfl⟩ : ∃ wo : World, wo = wr := ⟨_, rfl⟩
          go_loopg [5] 0 (fun gk ii wr => gk = 0 ∧ ii = .int .i64 0 ∧ wr = wo)
          case atStart => exact ⟨rfl, rfl, rfl⟩
          case round =>
            obtain ⟨rfl, rfl, rfl⟩ := hrel
            go_wp2_with fail
            go_ret
            refine ⟨?_, HB.out⟩
            show Ending.returned (Value.bool true) = Ending.returned (Value.bool (rightB (7 : Int) N T ks))
            rw [HGood.out]
      · have z0 : wr.cell? ⟨w.heap.size, 0, none⟩ = some (.int .i64 12) := y0
        have ha' : (places (12 : Int)).all (fun i => small (N i)) = true := ha
        clear y0 hc0 ha
        by_cases b8 : (100 : Int) < (ks.length : Int)
        · have bad : rightB (12 : Int) N T ks = false := by
            rw [rightB_eq, show keepOf (12 : Int) ks = ks from rfl, decide_eq_false (by omega), Bool.false_and]
          have HBad := Lib.hid bad
          clear bad
          go_wp2_with fail
          go_ret
          refine ⟨?_, HB.out⟩
          show Ending.returned (Value.bool false) = Ending.returned (Value.bool (rightB (12 : Int) N T ks))
          rw [HBad.out]
        · have good : rightB (12 : Int) N T ks = ks.all small := by
            rw [rightB_eq]
            have e1 : (sel (txts (12 : Int)) [] T 6) = [] := rfl
            have e2 : (sel (txts (12 : Int)) [] T 7) = [] := rfl
            have e3 : keepOf (12 : Int) ks = ks := rfl
            rw [e1, e2, e3, ha', decide_eq_true (by simp; omega)]
            rfl
          clear ha'
          have HGood := Lib.hid good
          have BW := Lib.hid (HB.out)
          clear good
          go_wp2_with fail
          obtain ⟨wo, rfl⟩ : ∃ wo : World, wo = wr := ⟨_, rfl⟩
          go_loopg [5] ks.length (fun gk ii wr => ∃ j : Nat, j ≤ ks.length ∧ gk = ks.length - j ∧ ii = .int .i64 (j : Int) ∧ (ks.take j).all small = true ∧ wr = wo)
          case atStart => exact ⟨0, Nat.zero_le _, by omega, rfl, by simp, rfl⟩
          case round =>
            obtain ⟨j, hjn, rfl, rfl, ha, rfl⟩ := hrel
            by_cases hlt : j < ks.length
            · have hlt' : (j : Int) < (ks.length : Int) := by omega
              obtain ⟨n, hn⟩ : ∃ n, ks[j]? = some n := ⟨_, List.getElem?_eq_getElem hlt⟩
              obtain ⟨b0, off0, rfl, _, hb0, hc0⟩ := HA0.out (by omega)
              have x1 : wr.cell? ⟨b0, off0 + j, none⟩ = some (.int .i64 n) := by rw [HB.out.cell hb0]; exact hc0 j n hn
              have hnext : (ks.take (j + 1)).all small = small n := by rw [List.take_add_one, hn, List.all_append, ha]; simp
              have HM := Lib.hid (List.mem_of_getElem? hn)
              have HN := Lib.hid hnext
              clear hc0 hn hnext ha
              by_cases s0 : n < 0
              · have bad : rightB (12 : Int) N T ks = false := by
                  rw [HGood.out, List.all_eq_false]; exact ⟨n, HM.out, by unfold small; rw [decide_eq_false (by omega : ¬ 0 ≤ n)]; simp⟩
                have HBad := Lib.hid bad
                clear bad
                go_wp2_with fail
                go_ret
                refine ⟨?_, HB.out⟩
                show Ending.returned (Value.bool false) = Ending.returned (Value.bool (rightB (12 : Int) N T ks))
                rw [HBad.out]
              · by_cases s1 : (2147483648 : Int) ≤ n
                · have bad : rightB (12 : Int) N T ks = false := by
                    rw [HGood.out, List.all_eq_false]; exact ⟨n, HM.out, by unfold small; rw [decide_eq_false (by omega : ¬ n < 2147483648)]; simp⟩
                  have HBad := Lib.hid bad
                  clear bad
                  go_wp2_with fail
                  go_ret
                  refine ⟨?_, HB.out⟩
                  show Ending.returned (Value.bool false) = Ending.returned (Value.bool (rightB (12 : Int) N T ks))
                  rw [HBad.out]
                · have hs : small n = true := by unfold small; rw [decide_eq_true (by omega), decide_eq_true (by omega)]; rfl
                  have HS := Lib.hid hs
                  clear hs
                  go_wp2_with fail
                  go_roundg (ks.length - (j + 1))
                  case measure => omega
                  case rel => exact ⟨j + 1, by omega, rfl, by go_num, by rw [HN.out, HS.out], rfl⟩
            · obtain rfl : ks.length = j := by omega
              rw [List.take_length] at ha
              have HA := Lib.hid ha
              clear ha
              go_wp2_with fail
              go_ret
              refine ⟨?_, HB.out⟩
              show Ending.returned (Value.bool true) = Ending.returned (Value.bool (rightB (12 : Int) N T ks))
              rw [HGood.out, HA.out]
      · obtain ⟨n0, n7, n12⟩ := hne
        have m0 : ¬ (kn : Int) = 0 := by omega
        have m7 : ¬ (kn : Int) = 7 := by omega
        have m12 : ¬ (kn : Int) = 12 := by omega
        have good : rightB (kn : Int) N T ks = true := by
          rw [rightB_eq]
          have e0 : txts (kn : Int) = [] := by unfold txts; rw [if_neg m0, if_neg m7]
          have e3 : keepOf (kn : Int) ks = [] := by unfold keepOf; rw [if_neg m12]
          rw [e0, e3, ha, decide_eq_true (by simp [sel]; omega)]
          rfl
        clear ha
        have HGood := Lib.hid good
        clear good
        go_wp2_with fail
        obtain ⟨wo, rfl⟩ : ∃ wo : World, wo = wr := ⟨_, rfl⟩
        go_loopg [5] 0 (fun gk ii wr => gk = 0 ∧ ii = .int .i64 0 ∧ wr = wo)
        case atStart => exact ⟨rfl, rfl, rfl⟩
        case round =>
          obtain ⟨rfl, rfl, rfl⟩ := hrel
          go_wp2_with fail
          go_ret
          refine ⟨?_, HB.out⟩
          show Ending.returned (Value.bool true) = Ending.returned (Value.bool (rightB (kn : Int) N T ks))
          rw [HGood.out]
end Go.Proofs.YtmhhnmbedlhflaaDoor
