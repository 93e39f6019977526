/- The document's line of an act that is right. -/
import Derived.Test.YtmhhnmbedlhflaaDoorSame
import Derived.Test.YtmhhnmbedlhflaaDoorText
import Derived.Test.YtmhhnmbedlhflaaDoorRefHex
namespace Go.Proofs.YtmhhnmbedlhflaaDoor
open Go.RowKit

theorem tail_len {v : Bs} {l : List Bs} {M K : Nat} (h : ∀ x ∈ v :: l, x.length ≤ M) (hk : (v :: l).length * (M + 1) ≤ K) (j : Nat) : (v ++ Lib.joinTail [32] (l.take j)).length ≤ K := by
  have h1 := Lib.joinTail_take_le [32] l j
  have h2 := join_le 32 M (v :: l) h
  rw [Lib.join_cons, List.length_append] at h2
  rw [List.length_append]
  omega
theorem joinTail_le (l : List Bs) (M : Nat) (h : ∀ x ∈ l, x.length ≤ M) : (Lib.joinTail [32] l).length ≤ l.length * (M + 1) := by
  induction l with
  | nil => simp [Lib.joinTail]
  | cons x r ih =>
    have h1 := h x List.mem_cons_self
    have h2 := ih (fun y hy => h y (List.mem_cons_of_mem _ hy))
    have e : Lib.joinTail [32] (x :: r) = 32 :: x ++ Lib.joinTail [32] r := by simp [Lib.joinTail]
    rw [e, List.length_append, List.length_cons, List.length_cons (a := x), Nat.succ_mul]
    omega
theorem wrap_u64 (z : Int) (h0 : 0 ≤ z) (h : z < 2147483648) : IntKind.u64.wrap z = z := by
  unfold IntKind.wrap
  simp [IntKind.bits, IntKind.signed]
  omega
set_option maxHeartbeats 2000000 in
set_option maxRecDepth 100000 in
theorem reftext_go (kn : Nat) (hk12 : kn ≤ 12) (N : Nat → Int) (T : Nat → Bs) (kv : Value) (ks : List Int) (w : World) (hI : Ints w 0 kv ks) (hl : ks.length ≤ 1000000) (hr : rightB kn N T ks = true) :
    Calls Tryd.prog 13 #[.agg (aCells kn N T kv)] w fun e w' => e = .returned (.string ⟨(textB kn N T ks).toArray⟩) ∧ Below w.heap.size w w' := by
  obtain ⟨A0, c0, rfl, hA0⟩ := hI
  obtain ⟨hc0, -, -, -, -, -, hc6, hc7, hc8⟩ := acells_all kn N T (.slice A0 ks.length c0)
  have hcN := fun i (h : 1 ≤ i ∧ i ≤ 5) => acells_num kn N T (.slice A0 ks.length c0) h
  generalize aCells kn N T (.slice A0 ks.length c0) = cs at hc0 hc6 hc7 hc8 hcN
  have HCN := Lib.hid hcN
  have HA0 := Lib.hid hA0
  have HR := Lib.hid hr
  have V := Lib.hid (fun w => verb_run kn hk12 w)
  clear hcN hA0 hr
  go_enter Tryd.func13, Tryd.ntmps13
  go_wp2_with fail
  refine (V.out _).mono ?_
  rintro e w0 ⟨rfl, hw0⟩
  obtain rfl := hw0.symm
  go_wp2_with fail
  refine (has_run kn _).mono ?_
  rintro e w1 ⟨v1, rfl, hi1, hb1⟩
  have HB := Lib.hid (Below.trans ((Below.refl w.heap.size w).alloc (Nat.le_refl _) (.cells cs 27)) (hb1.mono (by simp)))
  have BL := Lib.hid (Blk.of_block (Blk.new w 27 cs) (hb1.block w.heap.size (by simp)))
  obtain ⟨A1, c1, rfl, hI1⟩ := hi1
  have HI1 := Lib.hid hI1
  have y0 := (BL.out.cell 0).trans hc0
  have y6 := (BL.out.cell 6).trans hc6
  have y7 := (BL.out.cell 7).trans hc7
  have y8 := (BL.out.cell 8).trans hc8
  have hl1 : (hasL kn).length = (places kn).length := by simp [hasL]
  have hl2 := places_len kn
  have hl3 : ((hasL kn).length : Int) ≤ 4 := by omega
  clear hb1 hI1
  have hwl := words_len HR.out
  have hW : words kn N T ks = verb (kn : Int) :: ((places kn).map (fun i => digs (N i).toNat) ++ ((txts kn).map (fun i => hexT (T i)) ++ (keepOf kn ks).map (fun n => digs n.toNat))) := by unfold words; simp
  have hlen := fun j => tail_len (K := 1000000) (fun x hx => hwl.2 x (by rw [hW]; exact hx)) (by rw [← hW]; have := hwl.1; omega) j
  have HL := Lib.hid hlen
  obtain ⟨hr1, hr2, hr3, hr4, hr5⟩ := right_parts HR.out
  have HRP := Lib.hid (And.intro hr2 (And.intro hr4 hr5))
  have gPW : ∀ (j : Nat) i, (places kn)[j]? = some i → ((places kn).map (fun i => digs (N i).toNat))[j]? = some (digs (N i).toNat) := fun j i h => by simp [h]
  have lPW : ((places kn).map (fun i => digs (N i).toNat)).length = (places kn).length := by simp
  have tPW : ∀ j, j ≤ (places kn).length → ((places kn).map (fun i => digs (N i).toNat) ++ ((txts kn).map (fun i => hexT (T i)) ++ (keepOf kn ks).map (fun n => digs n.toNat))).take j = ((places kn).map (fun i => digs (N i).toNat)).take j := fun j hj => by
    rw [List.take_append_of_le_length (by simpa using hj)]
  generalize hPW : (places kn).map (fun i => digs (N i).toNat) = PW at gPW lPW tPW hlen HL hW
  have HPW := Lib.hid (And.intro gPW (And.intro lPW tPW))
  have HW := Lib.hid hW
  clear hwl hlen hr1 hr2 hr3 hr4 hr5 gPW lPW tPW hPW hW
  go_wp2_with fail
  go_loopg [3, 5] (hasL kn).length (fun gk sv ii wr => ∃ j : Nat, j ≤ (hasL kn).length ∧ gk = (hasL kn).length - j ∧ ii = .int .i64 (j : Int) ∧ sv = .string ⟨(verb (kn : Int) ++ Lib.joinTail [32] (PW.take j)).toArray⟩ ∧ wr = w1)
  case atStart => exact ⟨0, Nat.zero_le _, by omega, rfl, by simp [Lib.joinTail], rfl⟩
  case round =>
    obtain ⟨j, hjn, rfl, rfl, rfl, rfl⟩ := hrel
    by_cases hlt : j < (hasL kn).length
    · obtain ⟨i, hi⟩ : ∃ i, (places kn)[j]? = some i := ⟨_, List.getElem?_eq_getElem (by omega)⟩
      have hlt' : (j : Int) < ((hasL kn).length : Int) := by omega
      have hmem := List.mem_of_getElem? hi
      have hpi := places_in hmem
      have hN := HRP.out.2.1 i hmem
      have hD := HPW.out.1 j i hi
      have hS := HL.out j
      rw [HPW.out.2.2 j (by omega)] at hS
      have hDl := digs_len (N i).toNat 9 (by omega)
      obtain ⟨m, rfl⟩ : ∃ m, i = m + 1 := ⟨i - 1, by omega⟩
      have hh : (hasL kn)[j]? = some (m : Int) := by simp [hasL, hi]
      obtain ⟨b1, off1, rfl, _, _, hcI⟩ := HI1.out (by omega)
      have x1 := hcI j _ hh
      have x2 : wr.cell? ⟨w.heap.size, 1 + m, none⟩ = some (.int .i64 (N (m + 1))) := by rw [BL.out.cell, Nat.add_comm]; exact HCN.out _ hpi
      have hm5 : (m : Int) < 5 := by omega
      have hwz := wrap_u64 (N (m + 1)) hN.1 hN.2
      have dg := refdigits_run (N (m + 1)).toNat (by omega) wr
      rw [show ((N (m + 1)).toNat : Int) = N (m + 1) by omega] at dg
      have hnext := Lib.joinTail_take_succ [32] PW j _ hD
      have HNx := Lib.hid hnext
      clear hcI hi hmem hpi hh hnext hD hN
      generalize digs (N (m + 1)).toNat = D at dg hDl HNx
      generalize hz : N (m + 1) = z at x2 dg hwz
      generalize hSj : verb (kn : Int) ++ Lib.joinTail [32] (PW.take j) = S at hS
      have HS := Lib.hid hSj
      have DG := Lib.hid dg
      clear hz hSj dg
      have a1 := fun w => run_string_add_lists (P := Tryd.prog) w S [32] (by omega) (by simp)
      have a2 := fun w => run_string_add_lists (P := Tryd.prog) w (S ++ [32]) D (by simp; omega) (by omega)
      clear hS hDl
      go_wp2_with fail
      refine DG.out.mono ?_
      rintro e w5 ⟨rfl, hw5⟩
      obtain rfl := hw5.symm
      go_wp2_with fail
      go_roundg ((hasL kn).length - (j + 1))
      case measure => omega
      case rel =>
        refine ⟨j + 1, by omega, rfl, by go_num, ?_, rfl⟩
        rw [HNx.out, ← List.append_assoc, ← List.append_assoc, HS.out]
        simp
    · obtain rfl : (hasL kn).length = j := by omega
      have hT : textB kn N T ks = verb (kn : Int) ++ Lib.joinTail [32] PW ++ Lib.joinTail [32] ((txts kn).map (fun i => hexT (T i)) ++ (keepOf kn ks).map (fun n => digs n.toNat)) := by
        unfold textB
        rw [HW.out, Lib.join_cons]
        simp [Lib.joinTail]
      have hS := HL.out (hasL kn).length
      rw [HPW.out.2.2 _ (by omega), hl1, ← HPW.out.2.1, List.take_length] at hS
      rw [hl1, ← HPW.out.2.1, List.take_length]
      generalize hSj : verb (kn : Int) ++ Lib.joinTail [32] PW = S at hS hT
      have HT := Lib.hid hT
      clear hT hSj
      rcases (by omega : kn = 0 ∨ kn = 7 ∨ kn = 12 ∨ (kn ≠ 0 ∧ kn ≠ 7 ∧ kn ≠ 12)) with rfl | rfl | rfl | hne
      · have z0 : wr.cell? ⟨w.heap.size, 0, none⟩ = some (.int .i64 0) := y0
        have hT6 := HRP.out.1 6 (by decide)
        have hT7 := HRP.out.1 7 (by decide)
        have hh6 : (hexT (T 6)).length ≤ 1000 := by unfold hexT; split; simp; rw [hexB_len]; omega
        have hh7 : (hexT (T 7)).length ≤ 1000 := by unfold hexT; split; simp; rw [hexB_len]; omega
        have hfin : textB (0 : Int) N T ks = S ++ [32] ++ hexT (T 6) ++ [32] ++ hexT (T 7) := by
          have := HT.out
          rw [show ((0 : Nat) : Int) = 0 from rfl] at this
          rw [this]
          show S ++ Lib.joinTail [32] ([hexT (T 6), hexT (T 7)] ++ []) = _
          simp [Lib.joinTail]
        have HF := Lib.hid hfin
        generalize T 6 = t6 at hh6 HF hT6 y6
        generalize T 7 = t7 at hh7 HF hT7 y7
        have a1 := fun w => run_string_add_lists (P := Tryd.prog) w S [32] (by omega) (by simp)
        have a2 := fun w => run_string_add_lists (P := Tryd.prog) w (S ++ [32]) (hexT t6) (by simp; omega) (by omega)
        have a3 := fun w => run_string_add_lists (P := Tryd.prog) w (S ++ [32] ++ hexT t6) [32] (by simp; omega) (by simp)
        have a3' := fun w => run_string_add_lists (P := Tryd.prog) w (S ++ 32 :: hexT t6) [32] (by simp; omega) (by simp)
        have a4' := fun w => run_string_add_lists (P := Tryd.prog) w (S ++ 32 :: (hexT t6 ++ [32])) (hexT t7) (by simp; omega) (by omega)
        have a4 := fun w => run_string_add_lists (P := Tryd.prog) w (S ++ [32] ++ hexT t6 ++ [32]) (hexT t7) (by simp; omega) (by omega)
        have HB0 := Lib.hid (fun n => below_drewN HB.out n)
        have HT6 := Lib.hid (fun w => refhex_quiet t6 (by omega) w)
        have HT7 := Lib.hid (fun w => refhex_quiet t7 (by omega) w)
        clear hfin hS y0 hT6 hT7 hh6 hh7
        go_wp2_with fail
        go_quiet ((go_at_call 36; first | (with_reducible exact Calls.quiet_of (HT6.out _)) | (with_reducible exact Calls.quiet_of (HT7.out _))))
        go_wp2_with fail
        have z0' : (wr.drewN nq).cell? ⟨w.heap.size, 0, none⟩ = some (.int .i64 0) := z0
        have HBw := Lib.hid (HB0.out nq)
        generalize wr.drewN nq = wo at *
        go_loopg [3, 6] 0 (fun gk sv ii wr => gk = 0 ∧ sv = .string ⟨(S ++ [32] ++ hexT t6 ++ [32] ++ hexT t7).toArray⟩ ∧ ii = .int .i64 0 ∧ wr = wo)
        case atStart => exact ⟨rfl, by simp, rfl, rfl⟩
        case round =>
          obtain ⟨rfl, rfl, rfl, rfl⟩ := hrel
          go_wp2_with fail
          go_ret
          refine ⟨?_, HBw.out⟩
          show Ending.returned (Value.string _) = Ending.returned (Value.string ⟨(textB (0 : Int) N T ks).toArray⟩)
          rw [HF.out]
      · have z0 : wr.cell? ⟨w.heap.size, 0, none⟩ = some (.int .i64 7) := y0
        have hT6 := HRP.out.1 6 (by decide)
        have q6 := Lib.hid (fun w => refhex_quiet (T 6) (by omega) w)
        have hh6 : (hexT (T 6)).length ≤ 1000 := by unfold hexT; split; simp; rw [hexB_len]; omega
        have hfin : textB (7 : Int) N T ks = S ++ [32] ++ hexT (T 6) := by
          have := HT.out
          rw [show ((7 : Nat) : Int) = 7 from rfl] at this
          rw [this]
          show S ++ Lib.joinTail [32] ([hexT (T 6)] ++ []) = _
          simp [Lib.joinTail]
        have HF := Lib.hid hfin
        generalize hexT (T 6) = D6 at hh6 q6 HF
        have a1 := fun w => run_string_add_lists (P := Tryd.prog) w S [32] (by omega) (by simp)
        have a2 := fun w => run_string_add_lists (P := Tryd.prog) w (S ++ [32]) D6 (by simp; omega) (by omega)
        have HB0 := Lib.hid (fun n => below_drewN HB.out n)
        clear hfin hS y0 hT6 hh6
        go_wp2_with fail
        refine (q6.out _).mono ?_
        rintro e w6 ⟨rfl, n6, rfl⟩
        go_wp2_with fail
        have z0' : (wr.drewN n6).cell? ⟨w.heap.size, 0, none⟩ = some (.int .i64 7) := z0
        have HBw := Lib.hid (HB0.out n6)
        generalize wr.drewN n6 = wo at *
        go_loopg [3, 6] 0 (fun gk sv ii wr => gk = 0 ∧ sv = .string ⟨(S ++ [32] ++ D6).toArray⟩ ∧ ii = .int .i64 0 ∧ wr = wo)
        case atStart => exact ⟨rfl, by simp, rfl, rfl⟩
        case round =>
          obtain ⟨rfl, rfl, rfl, rfl⟩ := hrel
          go_wp2_with fail
          go_ret
          refine ⟨?_, HBw.out⟩
          show Ending.returned (Value.string _) = Ending.returned (Value.string ⟨(textB (7 : Int) N T ks).toArray⟩)
          rw [HF.out]
      · have z0 : wr.cell? ⟨w.heap.size, 0, none⟩ = some (.int .i64 12) := y0
        have hkk : keepOf ((12 : Nat) : Int) ks = ks := rfl
        have hfin : textB (12 : Int) N T ks = S ++ Lib.joinTail [32] (ks.map (fun n => digs n.toNat)) := by
          have := HT.out
          rw [show ((12 : Nat) : Int) = 12 from rfl] at this
          rw [this]
          show S ++ Lib.joinTail [32] ([] ++ ks.map (fun n => digs n.toNat)) = _
          rw [List.nil_append]
        have HF := Lib.hid hfin
        have hK := HRP.out.2.2
        rw [hkk] at hK
        have hln := (right_parts HR.out).2.2.1
        rw [hkk] at hln
        have hKl : ∀ j, (Lib.joinTail [32] ((ks.map (fun n => digs n.toNat)).take j)).length ≤ 100000 := fun j => by
          have h1 := Lib.joinTail_take_le [32] (ks.map (fun n => digs n.toNat)) j
          have h2 := joinTail_le (ks.map (fun n => digs n.toNat)) 10 (fun x hx => by
            obtain ⟨n, hn, rfl⟩ := List.mem_map.1 hx
            have := hK n hn
            exact digs_len n.toNat 9 (by omega))
          rw [List.length_map] at h2
          omega
        have HKl := Lib.hid (And.intro hKl hK)
        have hln' : (ks.length : Int) ≤ 100 := by omega
        clear hfin y0 hkk hKl hK hlt
        go_wp2_with fail
        obtain ⟨wo, rfl⟩ : ∃ wo : World, wo = wr := ⟨_, rfl⟩
        go_loopg [3, 6] ks.length (fun gk sv ii wr => ∃ j : Nat, j ≤ ks.length ∧ gk = ks.length - j ∧ ii = .int .i64 (j : Int) ∧ sv = .string ⟨(S ++ Lib.joinTail [32] ((ks.map (fun n => digs n.toNat)).take j)).toArray⟩ ∧ wr = wo)
        case atStart => exact ⟨0, Nat.zero_le _, by omega, rfl, by simp [Lib.joinTail], rfl⟩
        case round =>
          obtain ⟨j, hjn, rfl, rfl, rfl, rfl⟩ := hrel
          by_cases hlt : j < ks.length
          · obtain ⟨n, hn⟩ : ∃ n, ks[j]? = some n := ⟨_, List.getElem?_eq_getElem hlt⟩
            have hlt' : (j : Int) < (ks.length : Int) := by omega
            have hN := HKl.out.2 n (List.mem_of_getElem? hn)
            have hD : (ks.map (fun n => digs n.toNat))[j]? = some (digs n.toNat) := by simp [hn]
            have hDl := digs_len n.toNat 9 (by omega)
            obtain ⟨b1, off1, rfl, _, hbl, hcI⟩ := HA0.out (by omega)
            have x1 : wr.cell? ⟨b1, off1 + j, none⟩ = some (.int .i64 n) := by rw [HB.out.cell hbl]; exact hcI j n hn
            have hwz := wrap_u64 n hN.1 hN.2
            have dg := refdigits_run n.toNat (by omega) wr
            rw [show (n.toNat : Int) = n by omega] at dg
            have hnext := Lib.joinTail_take_succ [32] (ks.map (fun n => digs n.toNat)) j _ hD
            have HNx := Lib.hid hnext
            have hSl := HKl.out.1 j
            have x8 : wr.cell? ⟨w.heap.size, 8, none⟩ = some (.slice (some ⟨b1, off1, none⟩) ks.length c0) := y8
            clear hcI hn hnext hD hN y8
            generalize digs n.toNat = D at dg hDl HNx
            generalize Lib.joinTail [32] ((ks.map (fun n => digs n.toNat)).take j) = J at hSl HNx
            have DG := Lib.hid dg
            clear dg
            have a1 := fun w => run_string_add_lists (P := Tryd.prog) w (S ++ J) [32] (by simp; omega) (by simp)
            have a2 := fun w => run_string_add_lists (P := Tryd.prog) w (S ++ (J ++ [32])) D (by simp; omega) (by omega)
            have a2' := fun w => run_string_add_lists (P := Tryd.prog) w (S ++ J ++ [32]) D (by simp; omega) (by omega)
            clear hSl hDl
            go_wp2_with fail
            refine DG.out.mono ?_
            rintro e w5 ⟨rfl, hw5⟩
            obtain rfl := hw5.symm
            go_wp2_with fail
            go_roundg (ks.length - (j + 1))
            case measure => omega
            case rel =>
              refine ⟨j + 1, by omega, rfl, by go_num, ?_, rfl⟩
              rw [HNx.out]
              simp
          · obtain rfl : ks.length = j := by omega
            have x8 : wr.cell? ⟨w.heap.size, 8, none⟩ = some (.slice A0 ks.length c0) := y8
            clear y8
            go_wp2_with fail
            go_ret
            refine ⟨?_, HB.out⟩
            show Ending.returned (Value.string _) = Ending.returned (Value.string ⟨(textB (12 : Int) N T ks).toArray⟩)
            rw [HF.out, show (ks.map (fun n => digs n.toNat)).take ks.length = ks.map (fun n => digs n.toNat) from List.take_of_length_le (by simp)]
      · obtain ⟨n0, n7, n12⟩ := hne
        have m0 : ¬ (kn : Int) = 0 := by omega
        have m7 : ¬ (kn : Int) = 7 := by omega
        have m12 : ¬ (kn : Int) = 12 := by omega
        have e0 : txts (kn : Int) = [] := by unfold txts; rw [if_neg m0, if_neg m7]
        have e3 : keepOf (kn : Int) ks = [] := by unfold keepOf; rw [if_neg m12]
        have hfin : textB kn N T ks = S := by rw [HT.out, e0, e3]; simp [Lib.joinTail]
        have HF := Lib.hid hfin
        clear hfin e0 e3 hS
        go_wp2_with fail
        obtain ⟨wo, rfl⟩ : ∃ wo : World, wo = wr := ⟨_, rfl⟩
        go_loopg [3, 6] 0 (fun gk sv ii wr => gk = 0 ∧ sv = .string ⟨S.toArray⟩ ∧ ii = .int .i64 0 ∧ wr = wo)
        case atStart => exact ⟨rfl, rfl, rfl, rfl⟩
        case round =>
          obtain ⟨rfl, rfl, rfl, rfl⟩ := hrel
          go_wp2_with fail
          go_ret
          rw [HF.out]
          exact ⟨rfl, HB.out⟩
end Go.Proofs.YtmhhnmbedlhflaaDoor
