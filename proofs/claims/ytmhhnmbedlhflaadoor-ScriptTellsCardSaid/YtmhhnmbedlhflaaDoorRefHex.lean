/- The document's hexadecimal digits. -/
import Derived.Test.YtmhhnmbedlhflaaDoorNumber
import Derived.Test.YtmhhnmbedlhflaaDoorStep
namespace Go.Proofs.YtmhhnmbedlhflaaDoor
open Go.RowKit

theorem slice_hex (d : Nat) (hd : d < 16) (k : IntKind) (w : World) : (Instr.slice 9 (.string ⟨#[48, 49, 50, 51, 52, 53, 54, 55, 56, 57, 97, 98, 99, 100, 101, 102]⟩) (some (.int k (d : Int))) (some (.int k ((d : Int) + 1))) none).run Tryd.prog w = .ok (.string ⟨[hx d].toArray⟩) w := by
  have h := run_slice_string (P := Tryd.prog) w 9 ⟨#[48, 49, 50, 51, 52, 53, 54, 55, 56, 57, 97, 98, 99, 100, 101, 102]⟩ k k (d : Int) ((d : Int) + 1) Tryd.underlying9 (by omega) (by omega) (by simp [ByteArray.size]; omega)
  rw [h]
  have e : ∀ d, d < 16 → (⟨#[48, 49, 50, 51, 52, 53, 54, 55, 56, 57, 97, 98, 99, 100, 101, 102]⟩ : ByteArray).extract d (d + 1) = ⟨#[hx d]⟩ := by decide
  have e1 : ((d : Int)).toNat = d := by omega
  have e2 : ((d : Int) + 1).toNat = d + 1 := by omega
  rw [e1, e2, e d hd]
theorem wrap_u8' (z : Int) (h0 : 0 ≤ z) (h : z < 256) : IntKind.u8.wrap z = z := by
  unfold IntKind.wrap
  simp [IntKind.bits, IntKind.signed]
  omega
theorem refhex_none (w : World) : Calls Tryd.prog 36 #[.string ⟨#[]⟩] w fun e w' => e = .returned (.string ⟨#[45]⟩) ∧ w' = w := by
  go_enter Tryd.func36, Tryd.ntmps36
  go_wp2_with fail
  go_ret
  exact ⟨rfl, rfl⟩
set_option maxHeartbeats 1000000 in
set_option maxRecDepth 100000 in
theorem refhex_some (s : Bs) (h1 : 0 < s.length) (hl : s.length ≤ 1000000) (w : World) :
    Calls Tryd.prog 36 #[.string ⟨s.toArray⟩] w fun e w' => e = .returned (.string ⟨(hexB s).toArray⟩) ∧ Below w.heap.size w w' := by
  have hne : s.isEmpty = false := by cases s <;> simp at h1 ⊢
  have hl' : (s.length : Int) ≤ 1000000 := by omega
  go_enter Tryd.func36, Tryd.ntmps36
  go_wp2_with fail
  go_loopg [3, 4] s.length (fun gk v ii wr => ∃ k : Nat, k ≤ s.length ∧ gk = s.length - k ∧ ii = .int .i64 (k : Int) ∧ v = .string ⟨(hexB (s.take k)).toArray⟩ ∧ Below w.heap.size w wr)
  case atStart => exact ⟨0, Nat.zero_le _, by omega, rfl, rfl, Below.refl _ _⟩
  case round =>
    obtain ⟨k, hkn, rfl, rfl, rfl, hb⟩ := hrel
    have HB := Lib.hid hb
    by_cases hlt : k < s.length
    · obtain ⟨c, hc⟩ : ∃ c, s[k]? = some c := ⟨_, List.getElem?_eq_getElem hlt⟩
      have hlt' : (k : Int) < (s.length : Int) := by omega
      have hik := fun w => index_str 9 Tryd.underlying9 s k c hc .i64 w
      have hcb := c.toNat_lt
      have htk : hexB (s.take (k + 1)) = hexB (s.take k) ++ [hx (c.toNat / 16), hx (c.toNat % 16)] := by
        rw [List.take_add_one, hc, hexB_append]; rfl
      have HT := Lib.hid htk
      have i1 := fun w => slice_hex (c.toNat / 16) (by omega) .u8 w
      have i2 := fun w => slice_hex (c.toNat % 16) (by omega) .u8 w
      have e1 : ((c.toNat / 16 : Nat) : Int) = (c.toNat : Int) / 16 := by omega
      have e2 : ((c.toNat % 16 : Nat) : Int) = (c.toNat : Int) % 16 := by omega
      rw [e1] at i1
      rw [e2] at i2
      have hlen : (hexB (s.take k)).length ≤ 2000000 := by rw [hexB_len, List.length_take]; omega
      clear hb htk hc e1 e2
      generalize hA : hx (c.toNat / 16) = A at i1
      generalize hB : hx (c.toNat % 16) = B at i2
      have HA := Lib.hid hA
      have HB' := Lib.hid hB
      clear hA hB
      generalize c.toNat = x at hik i1 i2 hcb HA HB' HT
      have hcb' : (x : Int) < 256 := by omega
      have hw3 : (x : Int).tmod 16 = (x : Int) % 16 := Int.tmod_eq_emod_of_nonneg (by omega)
      have hw1 : IntKind.u8.wrap ((x : Int) / 16) = (x : Int) / 16 := wrap_u8' _ (by omega) (by omega)
      have hw4 : IntKind.u8.wrap ((x : Int) / 16 + 1) = (x : Int) / 16 + 1 := wrap_u8' _ (by omega) (by omega)
      have hw5 : IntKind.u8.wrap ((x : Int) % 16 + 1) = (x : Int) % 16 + 1 := wrap_u8' _ (by omega) (by omega)
      generalize hL : hexB (s.take k) = L at hlen ⊢
      have a1 := fun w => run_string_add_lists (P := Tryd.prog) w L [A] (by omega) (by simp)
      have a2 := fun w => run_string_add_lists (P := Tryd.prog) w (L ++ [A]) [B] (by simp; omega) (by simp)
      have HL := Lib.hid hL
      clear hL hlen
      go_wp2_with fail
      go_quiet (fail)
      go_wp2_with fail
      go_roundg (s.length - (k + 1))
      case measure => omega
      case rel =>
        refine ⟨k + 1, by omega, rfl, by go_num, ?_, below_drewN HB.out _⟩
        rw [HT.out, HL.out, HA.out, HB'.out]
    · obtain rfl : s.length = k := by omega
      rw [List.take_length]
      clear hb
      go_wp2_with fail
      go_ret
      exact ⟨rfl, HB.out⟩
theorem refhex_run (s : Bs) (hl : s.length ≤ 1000000) (w : World) :
    Calls Tryd.prog 36 #[.string ⟨s.toArray⟩] w fun e w' => e = .returned (.string ⟨(hexT s).toArray⟩) ∧ Below w.heap.size w w' := by
  by_cases h : s = []
  · subst h
    exact (refhex_none w).mono fun e w' ⟨he, hw⟩ => ⟨he, hw ▸ Below.refl _ _⟩
  · unfold hexT
    rw [if_neg h]
    exact refhex_some s (by cases s; exact absurd rfl h; simp) hl w
set_option maxHeartbeats 1000000 in
set_option maxRecDepth 100000 in
theorem refhex_drew (s : Bs) (h1 : 0 < s.length) (hl : s.length ≤ 1000000) (w : World) :
    Calls Tryd.prog 36 #[.string ⟨s.toArray⟩] w fun e w' => e = .returned (.string ⟨(hexB s).toArray⟩) ∧ ∃ m, w' = w.drewN m := by
  have hne : s.isEmpty = false := by cases s <;> simp at h1 ⊢
  have hl' : (s.length : Int) ≤ 1000000 := by omega
  go_enter Tryd.func36, Tryd.ntmps36
  go_wp2_with fail
  go_loopg [3, 4] s.length (fun gk v ii wr => ∃ k : Nat, k ≤ s.length ∧ gk = s.length - k ∧ ii = .int .i64 (k : Int) ∧ v = .string ⟨(hexB (s.take k)).toArray⟩ ∧ ∃ m, wr = w.drewN m)
  case atStart => exact ⟨0, Nat.zero_le _, by omega, rfl, rfl, 0, rfl⟩
  case round =>
    obtain ⟨k, hkn, rfl, rfl, rfl, hb⟩ := hrel
    have HB := Lib.hid hb
    by_cases hlt : k < s.length
    · obtain ⟨c, hc⟩ : ∃ c, s[k]? = some c := ⟨_, List.getElem?_eq_getElem hlt⟩
      have hlt' : (k : Int) < (s.length : Int) := by omega
      have hik := fun w => index_str 9 Tryd.underlying9 s k c hc .i64 w
      have hcb := c.toNat_lt
      have htk : hexB (s.take (k + 1)) = hexB (s.take k) ++ [hx (c.toNat / 16), hx (c.toNat % 16)] := by
        rw [List.take_add_one, hc, hexB_append]; rfl
      have HT := Lib.hid htk
      have i1 := fun w => slice_hex (c.toNat / 16) (by omega) .u8 w
      have i2 := fun w => slice_hex (c.toNat % 16) (by omega) .u8 w
      have e1 : ((c.toNat / 16 : Nat) : Int) = (c.toNat : Int) / 16 := by omega
      have e2 : ((c.toNat % 16 : Nat) : Int) = (c.toNat : Int) % 16 := by omega
      rw [e1] at i1
      rw [e2] at i2
      have hlen : (hexB (s.take k)).length ≤ 2000000 := by rw [hexB_len, List.length_take]; omega
      clear hb htk hc e1 e2
      generalize hA : hx (c.toNat / 16) = A at i1
      generalize hB : hx (c.toNat % 16) = B at i2
      have HA := Lib.hid hA
      have HB' := Lib.hid hB
      clear hA hB
      generalize c.toNat = x at hik i1 i2 hcb HA HB' HT
      have hcb' : (x : Int) < 256 := by omega
      have hw3 : (x : Int).tmod 16 = (x : Int) % 16 := Int.tmod_eq_emod_of_nonneg (by omega)
      have hw1 : IntKind.u8.wrap ((x : Int) / 16) = (x : Int) / 16 := wrap_u8' _ (by omega) (by omega)
      have hw4 : IntKind.u8.wrap ((x : Int) / 16 + 1) = (x : Int) / 16 + 1 := wrap_u8' _ (by omega) (by omega)
      have hw5 : IntKind.u8.wrap ((x : Int) % 16 + 1) = (x : Int) % 16 + 1 := wrap_u8' _ (by omega) (by omega)
      generalize hL : hexB (s.take k) = L at hlen ⊢
      have a1 := fun w => run_string_add_lists (P := Tryd.prog) w L [A] (by omega) (by simp)
      have a2 := fun w => run_string_add_lists (P := Tryd.prog) w (L ++ [A]) [B] (by simp; omega) (by simp)
      have HL := Lib.hid hL
      clear hL hlen
      go_wp2_with fail
      go_quiet (fail)
      go_wp2_with fail
      go_roundg (s.length - (k + 1))
      case measure => omega
      case rel =>
        refine ⟨k + 1, by omega, rfl, by go_num, ?_, by obtain ⟨m, hm⟩ := HB.out; exact ⟨m + nq, by rw [hm, World.drewN_drewN]⟩⟩
        rw [HT.out, HL.out, HA.out, HB'.out]
    · obtain rfl : s.length = k := by omega
      rw [List.take_length]
      clear hb
      go_wp2_with fail
      go_ret
      exact ⟨rfl, HB.out⟩
theorem refhex_quiet (s : Bs) (hl : s.length ≤ 1000000) (w : World) :
    Calls Tryd.prog 36 #[.string ⟨s.toArray⟩] w fun e w' => e = .returned (.string ⟨(hexT s).toArray⟩) ∧ ∃ m, w' = w.drewN m := by
  by_cases h : s = []
  · subst h
    exact (refhex_none w).mono fun e w' ⟨he, hw⟩ => ⟨he, 0, hw⟩
  · unfold hexT
    rw [if_neg h]
    exact refhex_drew s (by cases s; exact absurd rfl h; simp) hl w
end Go.Proofs.YtmhhnmbedlhflaaDoor
