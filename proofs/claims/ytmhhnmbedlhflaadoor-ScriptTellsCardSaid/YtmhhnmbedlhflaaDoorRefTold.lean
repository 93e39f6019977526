/- What came of an act, as the document tells it. -/
import Derived.Test.YtmhhnmbedlhflaaDoorTold
import Derived.Test.YtmhhnmbedlhflaaDoorRefText
namespace Go.Proofs.YtmhhnmbedlhflaaDoor
open Go.RowKit

def idW (s : Bs) : List Bs := if s = [] then [] else [[105, 100], s]
theorem join_two_more (a : List Bs) (x y : Bs) (h : a ≠ []) : Lib.join (a ++ [x, y]) [32] = Lib.join a [32] ++ ((32 :: x) ++ (32 :: y)) := by
  cases a with
  | nil => exact absurd rfl h
  | cons u t =>
    rw [List.cons_append, Lib.join_cons, Lib.join_cons]
    simp [Lib.joinTail]
theorem toldA_ne (code : Nat) : toldA code ≠ [] := by unfold toldA; split <;> simp
theorem toldA_len (code : Nat) (hc : code < 16777216) : (Lib.join (toldA code) [32]).length ≤ 100 := by
  have c1 := digs_len code 7 (by omega)
  unfold toldA
  split
  · rw [Lib.join_one]; simp
  · rw [join_two, Lib.join_one]; simp; omega
theorem joinN_len (A : List Bs) (hA : A ≠ []) (n : Nat) (hn : n < 16777216) : (Lib.join (A ++ toldN n) [32]).length ≤ (Lib.join A [32]).length + 20 := by
  have c1 := digs_len n 7 (by omega)
  unfold toldN
  split
  · simp
  · rw [join_two_more _ _ _ hA]; simp; omega
theorem joinI_len (A : List Bs) (hA : A ≠ []) (s : Bs) (hs : s.length ≤ 1000) : (Lib.join (A ++ idW s) [32]).length ≤ (Lib.join A [32]).length + 2000 := by
  unfold idW
  split
  · simp
  · rw [join_two_more _ _ _ hA]; simp; omega
set_option maxHeartbeats 2000000 in
set_option maxRecDepth 100000 in
theorem reftold_run (code n : Nat) (s : Bs) (files : Nat) (hc : code < 16777216) (hn : n < 16777216) (hf : files < 16777216) (hs : s.length ≤ 1000) (w : World) :
    Calls Tryd.prog 17 #[.int .i64 (code : Int), .int .i64 (n : Int), .string ⟨s.toArray⟩, .int .i64 (files : Int)] w fun e w' => e = .returned (.string ⟨(Lib.join (toldA code ++ toldN n ++ idW s ++ toldF files) [32]).toArray⟩) ∧ w' = w := by
  have c1 := Lib.hid (fun w => refdigits_run code (by omega) w)
  have c2 := Lib.hid (fun w => refdigits_run n (by omega) w)
  have c4 := Lib.hid (fun w => refdigits_run files (by omega) w)
  have w1 := wrap_u64 (code : Int) (by omega) (by omega)
  have w2 := wrap_u64 (n : Int) (by omega) (by omega)
  have w3 := wrap_u64 (files : Int) (by omega) (by omega)
  have l1 := digs_len code 7 (by omega)
  have l2 := digs_len n 7 (by omega)
  have l3 := digs_len files 7 (by omega)
  have lA := toldA_len code hc
  have lN := joinN_len _ (toldA_ne code) n hn
  have lI := joinI_len (toldA code ++ toldN n) (by simp [toldA_ne]) s hs
  go_enter Tryd.func17, Tryd.ntmps17
  go_upto_if 11 with fail
  go_cut [9] (fun s9 wx => s9 = .string ⟨(Lib.join (toldA code) [32]).toArray⟩ ∧ wx = w)
  case first =>
    by_cases e0 : code = 0
    · have e0' : ((code : Int) != 0) = false := by simp; omega
      have hA := Lib.hid (show Lib.join (toldA code) [32] = [111, 107] by unfold toldA; rw [if_pos e0, Lib.join_one])
      clear e0
      go_wp2_with fail
      go_meet
      case rel => exact ⟨by rw [hA.out] <;> simp, rfl⟩
    · have e0' : ¬ (code : Int) = 0 := by omega
      have hA := Lib.hid (show Lib.join (toldA code) [32] = [101, 114, 114, 111, 114, 32] ++ digs code by unfold toldA; rw [if_neg e0, join_two, Lib.join_one]; rfl)
      clear e0
      generalize hD : digs code = D at c1 l1 hA
      have a1 := fun w => run_string_add_lists (P := Tryd.prog) w [101, 114, 114, 111, 114, 32] D (by simp) (by omega)
      go_wp2_with fail
      refine (c1.out _).mono ?_
      rintro e w5 ⟨rfl, hw5⟩
      obtain rfl := hw5.symm
      go_wp2_with fail
      go_meet
      case rel => exact ⟨by rw [hA.out] <;> simp, rfl⟩
  case rest =>
    obtain ⟨rfl, hw⟩ := hcut
    obtain rfl := hw.symm
    go_upto_if 17 with fail
    go_cut [9] (fun s9 wx => s9 = .string ⟨(Lib.join (toldA code ++ toldN n) [32]).toArray⟩ ∧ wx = w)
    case first =>
      by_cases e0 : n = 0
      · have e0' : ((n : Int) != 0) = false := by simp; omega
        have hA := Lib.hid (show toldN n = [] by unfold toldN; rw [if_pos e0])
        clear e0
        go_wp2_with fail
        go_meet
        case rel => exact ⟨by rw [hA.out, List.append_nil], rfl⟩
      · have e0' : ¬ (n : Int) = 0 := by omega
        have hA := Lib.hid (show Lib.join (toldA code ++ toldN n) [32] = Lib.join (toldA code) [32] ++ [32, 110, 32] ++ digs n by unfold toldN; rw [if_neg e0, join_two_more _ _ _ (by simp [toldA_ne])]; simp)
        clear e0
        generalize hD : digs n = D at c2 l2 hA
        generalize Lib.join (toldA code) [32] = P at *
        have a1 := fun w => run_string_add_lists (P := Tryd.prog) w P [32, 110, 32] (by omega) (by simp)
        have a2 := fun w => run_string_add_lists (P := Tryd.prog) w (P ++ [32, 110, 32]) D (by simp; omega) (by omega)
        go_wp2_with fail
        refine (c2.out _).mono ?_
        rintro e w5 ⟨rfl, hw5⟩
        obtain rfl := hw5.symm
        go_wp2_with fail
        go_meet
        case rel => exact ⟨by rw [hA.out] <;> simp, rfl⟩
    case rest =>
      obtain ⟨rfl, hw⟩ := hcut
      obtain rfl := hw.symm
      obtain ⟨nb, hnb⟩ : ∃ nb, (!s.isEmpty) = nb := ⟨_, rfl⟩
      go_upto_if 25 with fail
      go_cut [9] (fun s9 wx => s9 = .string ⟨(Lib.join (toldA code ++ toldN n ++ idW s) [32]).toArray⟩ ∧ wx = w)
      case first =>
        cases nb
        · have hA := Lib.hid (show idW s = [] by unfold idW; rw [if_pos (by simpa using hnb)])
          go_wp2_with fail
          go_meet
          case rel => exact ⟨by rw [hA.out, List.append_nil] <;> simp, rfl⟩
        · have hA := Lib.hid (show Lib.join (toldA code ++ toldN n ++ idW s) [32] = Lib.join (toldA code ++ toldN n) [32] ++ [32, 105, 100, 32] ++ s by unfold idW; rw [if_neg (by simpa using hnb), join_two_more _ _ _ (by simp [toldA_ne])]; simp)
          generalize Lib.join (toldA code ++ toldN n) [32] = P at *
          have a1 := fun w => run_string_add_lists (P := Tryd.prog) w P [32, 105, 100, 32] (by omega) (by simp)
          have a2 := fun w => run_string_add_lists (P := Tryd.prog) w (P ++ [32, 105, 100, 32]) s (by simp; omega) (by omega)
          go_wp2_with fail
          go_meet
          case rel => exact ⟨by rw [hA.out] <;> simp, rfl⟩
      case rest =>
        obtain ⟨rfl, hw⟩ := hcut
        obtain rfl := hw.symm
        go_upto_if 31 with fail
        go_cut [9] (fun s9 wx => s9 = .string ⟨(Lib.join (toldA code ++ toldN n ++ idW s ++ toldF files) [32]).toArray⟩ ∧ wx = w)
        case first =>
          by_cases e0 : files = 0
          · have e0' : ((files : Int) != 0) = false := by simp; omega
            have hA := Lib.hid (show toldF files = [] by unfold toldF; rw [if_pos e0])
            clear e0
            go_wp2_with fail
            go_meet
            case rel => exact ⟨by rw [hA.out, List.append_nil] <;> simp, rfl⟩
          · have e0' : ¬ (files : Int) = 0 := by omega
            have hA := Lib.hid (show Lib.join (toldA code ++ toldN n ++ idW s ++ toldF files) [32] = Lib.join (toldA code ++ toldN n ++ idW s) [32] ++ [32, 102, 105, 108, 101, 115, 32] ++ digs files by unfold toldF; rw [if_neg e0, join_two_more _ _ _ (by simp [toldA_ne])]; simp)
            clear e0
            generalize hD : digs files = D at c4 l3 hA
            generalize Lib.join (toldA code ++ toldN n ++ idW s) [32] = P at *
            have a1 := fun w => run_string_add_lists (P := Tryd.prog) w P [32, 102, 105, 108, 101, 115, 32] (by omega) (by simp)
            have a2 := fun w => run_string_add_lists (P := Tryd.prog) w (P ++ [32, 102, 105, 108, 101, 115, 32]) D (by simp; omega) (by omega)
            go_wp2_with fail
            refine (c4.out _).mono ?_
            rintro e w5 ⟨rfl, hw5⟩
            obtain rfl := hw5.symm
            go_wp2_with fail
            go_meet
            case rel => exact ⟨by rw [hA.out] <;> simp, rfl⟩
        case rest =>
          obtain ⟨rfl, hw⟩ := hcut
          obtain rfl := hw.symm
          go_wp2_with fail
          go_ret
          exact ⟨rfl, rfl⟩
end Go.Proofs.YtmhhnmbedlhflaaDoor
