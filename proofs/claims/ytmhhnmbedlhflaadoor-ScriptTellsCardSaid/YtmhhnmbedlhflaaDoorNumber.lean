/- A number is read. -/
import Derived.Test.YtmhhnmbedlhflaaDoorDigits
import Derived.Test.YtmhhnmbedlhflaaDoorMaps
namespace Go.Proofs.YtmhhnmbedlhflaaDoor
open Go.RowKit

theorem index_str (t : TypeId) (ht : Tryd.prog.underlying t = some .string) (s : Bs) (k : Nat) (c : UInt8) (h : s[k]? = some c) (q : IntKind) (w : World) : (Instr.index t (.string ⟨s.toArray⟩) (.int q (k : Int))).run Tryd.prog w = .ok (.int .u8 (c.toNat : Int)) w := by
  obtain ⟨hl, rfl⟩ := List.getElem?_eq_some_iff.1 h
  rw [run_index_string _ _ _ _ _ ht, dif_pos ⟨by omega, by simp [ByteArray.size]; omega⟩]
  rfl
theorem number_none (w : World) : Calls Tryd.prog 32 #[.string ⟨#[]⟩] w fun e w' => e = .returned (.tuple #[.int .i64 0, .bool false]) ∧ w' = w := by
  go_enter Tryd.func32, Tryd.ntmps32
  go_wp2_with fail
  go_ret2
  exact ⟨rfl, rfl⟩
theorem number_zero (s : Bs) (h1 : 1 < s.length) (h0 : s[0]? = some 48) (hl : s.length ≤ 8388608) (w : World) :
    Calls Tryd.prog 32 #[.string ⟨s.toArray⟩] w fun e w' => e = .returned (.tuple #[.int .i64 0, .bool false]) ∧ w' = w := by
  have hix : ∀ w, (Instr.index 9 (.string ⟨s.toArray⟩) (.int .i64 0)).run Tryd.prog w = .ok (.int .u8 48) w := fun w => index_str 9 Tryd.underlying9 s 0 48 h0 .i64 w
  have hne : s.isEmpty = false := by cases s <;> simp at h1 ⊢
  have hsz : (1 : Int) < (s.length : Int) := by omega
  clear h0 h1
  go_enter Tryd.func32, Tryd.ntmps32
  go_wp2_with fail
  go_ret2
  exact ⟨rfl, rfl⟩
set_option maxRecDepth 100000 in
theorem number_go (s : Bs) (hp : 0 < s.length) (hz : s[0]? ≠ some 48 ∨ s.length = 1) (hl : s.length ≤ 8388608) (w : World) :
    Calls Tryd.prog 32 #[.string ⟨s.toArray⟩] w fun e w' => e = .returned (.tuple #[.int .i64 ((numGo 0 s).getD 0 : Nat), .bool (numGo 0 s).isSome]) ∧ w' = w := by
  obtain ⟨c, hc⟩ : ∃ c, s[0]? = some c := ⟨_, List.getElem?_eq_getElem hp⟩
  have hix : ∀ w, (Instr.index 9 (.string ⟨s.toArray⟩) (.int .i64 0)).run Tryd.prog w = .ok (.int .u8 (c.toNat : Int)) w := fun w => index_str 9 Tryd.underlying9 s 0 c hc .i64 w
  have hne : s.isEmpty = false := by cases s <;> simp at hp ⊢
  have hcz : ¬ (c.toNat : Int) = 48 ∨ ¬ (1 : Int) < (s.length : Int) := by
    rcases hz with h | h
    · left; intro e; apply h; rw [hc]; congr 1; apply UInt8.toNat_inj.1; show c.toNat = 48; omega
    · right; omega
  have hl' : (s.length : Int) ≤ 8388608 := by omega
  have HC := Lib.hid hc
  clear hz hc hl
  generalize hd : (c.toNat : Int) = d at hix hcz
  clear hd
  by_cases h48 : d = 48
  · have h1 : ¬ (1 : Int) < (s.length : Int) := by omega
    clear hcz
    go_enter Tryd.func32, Tryd.ntmps32
    go_wp2_with fail
    go_loopg [4, 20] s.length (fun gk vv ii wr => ∃ k v : Nat, k ≤ s.length ∧ gk = s.length - k ∧ v < 2147483648 ∧ vv = .int .i64 (v : Int) ∧ ii = .int .i64 (k : Int) ∧ numGo 0 s = numGo v (s.drop k) ∧ wr = w)
    case atStart => exact ⟨0, 0, Nat.zero_le _, by omega, by omega, rfl, rfl, rfl, rfl⟩
    case round =>
      obtain ⟨k, v, hkn, rfl, hv, rfl, rfl, hgo, rfl⟩ := hrel
      by_cases hlt : k < s.length
      · obtain ⟨c', hc'⟩ : ∃ c, s[k]? = some c := ⟨_, List.getElem?_eq_getElem hlt⟩
        have hlt' : (k : Int) < (s.length : Int) := by omega
        have hik := fun w => index_str 9 Tryd.underlying9 s k c' hc' .i64 w
        have hdr : s.drop k = c' :: s.drop (k + 1) := by rw [List.drop_eq_getElem_cons hlt]; rw [List.getElem?_eq_getElem hlt] at hc'; injection hc' with hc'; rw [hc']
        rw [hdr, numGo] at hgo
        have hb := c'.toNat_lt
        generalize c'.toNat = x at hik hgo hb
        have HG := Lib.hid hgo
        clear hgo hdr hc'
        have hv' : (v : Int) < 2147483648 := by omega
        by_cases a1 : (x : Int) < 48
        · have he : numGo 0 s = none := by rw [HG.out, if_pos (by omega)]
          have HE := Lib.hid he
          clear he
          go_wp2_with fail
          go_ret2
          rw [HE.out]
          exact ⟨rfl, rfl⟩
        · by_cases a2 : (57 : Int) < (x : Int)
          · have he : numGo 0 s = none := by rw [HG.out, if_pos (by omega)]
            have HE := Lib.hid he
            clear he
            go_wp2_with fail
            go_ret2
            rw [HE.out]
            exact ⟨rfl, rfl⟩
          · by_cases a3 : (2147483648 : Int) ≤ (v : Int) * 10 + ((x : Int) - 48)
            · have he : numGo 0 s = none := by rw [HG.out, if_neg (by omega), if_pos (by omega)]
              have HE := Lib.hid he
              clear he
              go_wp2_with fail
              go_ret2
              rw [HE.out]
              exact ⟨rfl, rfl⟩
            · have he : numGo 0 s = numGo (v * 10 + (x - 48)) (s.drop (k + 1)) := by rw [HG.out, if_neg (by omega), if_neg (by omega)]
              have HE := Lib.hid he
              clear he
              go_wp2_with fail
              go_roundg (s.length - (k + 1))
              case measure => omega
              case rel => exact ⟨k + 1, v * 10 + (x - 48), by omega, rfl, by omega, by go_num, by go_num, HE.out, rfl⟩
      · obtain rfl : s.length = k := by omega
        rw [List.drop_length, numGo] at hgo
        have HG := Lib.hid hgo
        clear hgo
        go_wp2_with fail
        go_ret2
        rw [HG.out]
        exact ⟨rfl, rfl⟩
  · clear hcz
    go_enter Tryd.func32, Tryd.ntmps32
    go_wp2_with fail
    go_loopg [4, 20] s.length (fun gk vv ii wr => ∃ k v : Nat, k ≤ s.length ∧ gk = s.length - k ∧ v < 2147483648 ∧ vv = .int .i64 (v : Int) ∧ ii = .int .i64 (k : Int) ∧ numGo 0 s = numGo v (s.drop k) ∧ wr = w)
    case atStart => exact ⟨0, 0, Nat.zero_le _, by omega, by omega, rfl, rfl, rfl, rfl⟩
    case round =>
      obtain ⟨k, v, hkn, rfl, hv, rfl, rfl, hgo, rfl⟩ := hrel
      by_cases hlt : k < s.length
      · obtain ⟨c', hc'⟩ : ∃ c, s[k]? = some c := ⟨_, List.getElem?_eq_getElem hlt⟩
        have hlt' : (k : Int) < (s.length : Int) := by omega
        have hik := fun w => index_str 9 Tryd.underlying9 s k c' hc' .i64 w
        have hdr : s.drop k = c' :: s.drop (k + 1) := by rw [List.drop_eq_getElem_cons hlt]; rw [List.getElem?_eq_getElem hlt] at hc'; injection hc' with hc'; rw [hc']
        rw [hdr, numGo] at hgo
        have hb := c'.toNat_lt
        generalize c'.toNat = x at hik hgo hb
        have HG := Lib.hid hgo
        clear hgo hdr hc'
        have hv' : (v : Int) < 2147483648 := by omega
        by_cases a1 : (x : Int) < 48
        · have he : numGo 0 s = none := by rw [HG.out, if_pos (by omega)]
          have HE := Lib.hid he
          clear he
          go_wp2_with fail
          go_ret2
          rw [HE.out]
          exact ⟨rfl, rfl⟩
        · by_cases a2 : (57 : Int) < (x : Int)
          · have he : numGo 0 s = none := by rw [HG.out, if_pos (by omega)]
            have HE := Lib.hid he
            clear he
            go_wp2_with fail
            go_ret2
            rw [HE.out]
            exact ⟨rfl, rfl⟩
          · by_cases a3 : (2147483648 : Int) ≤ (v : Int) * 10 + ((x : Int) - 48)
            · have he : numGo 0 s = none := by rw [HG.out, if_neg (by omega), if_pos (by omega)]
              have HE := Lib.hid he
              clear he
              go_wp2_with fail
              go_ret2
              rw [HE.out]
              exact ⟨rfl, rfl⟩
            · have he : numGo 0 s = numGo (v * 10 + (x - 48)) (s.drop (k + 1)) := by rw [HG.out, if_neg (by omega), if_neg (by omega)]
              have HE := Lib.hid he
              clear he
              go_wp2_with fail
              go_roundg (s.length - (k + 1))
              case measure => omega
              case rel => exact ⟨k + 1, v * 10 + (x - 48), by omega, rfl, by omega, by go_num, by go_num, HE.out, rfl⟩
      · obtain rfl : s.length = k := by omega
        rw [List.drop_length, numGo] at hgo
        have HG := Lib.hid hgo
        clear hgo
        go_wp2_with fail
        go_ret2
        rw [HG.out]
        exact ⟨rfl, rfl⟩
theorem number_run (s : Bs) (hl : s.length ≤ 8388608) (w : World) :
    Calls Tryd.prog 32 #[.string ⟨s.toArray⟩] w fun e w' => e = .returned (.tuple #[.int .i64 ((numB s).getD 0 : Nat), .bool (numB s).isSome]) ∧ w' = w := by
  cases s with
  | nil => exact number_none w
  | cons c r =>
    by_cases h : c.toNat = 48 ∧ r ≠ []
    · have hc : c = 48 := UInt8.toNat_inj.1 h.1
      subst hc
      have he : numB (48 :: r) = none := by unfold numB; exact if_pos h
      rw [he]
      exact number_zero (48 :: r) (by cases r; exact absurd rfl h.2; simp) rfl hl w
    · have he : numB (c :: r) = numGo 0 (c :: r) := by unfold numB; exact if_neg h
      rw [he]
      refine number_go (c :: r) (by simp) ?_ hl w
      by_cases h0 : c.toNat = 48
      · right
        cases r with
        | nil => rfl
        | cons _ _ => exact absurd ⟨h0, by simp⟩ h
      · left
        simp
        intro e; apply h0; rw [e]; rfl
end Go.Proofs.YtmhhnmbedlhflaaDoor
