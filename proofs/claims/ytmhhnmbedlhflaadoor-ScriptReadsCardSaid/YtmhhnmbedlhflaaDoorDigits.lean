/- Numbers as digits. -/
import Derived.Test.YtmhhnmbedlhflaaDoorBase
import Derived.Test.YtmhhnmbedlhflaaDoorLine
import Derived.Laws.BytesArg
import Derived.Laws.IdiomStrings
namespace Go.Proofs.YtmhhnmbedlhflaaDoor
open Go.RowKit

def str (l : Bs) : Value := .string ⟨l.toArray⟩
theorem bytes_append (a b : Bs) : (⟨a.toArray⟩ : ByteArray) ++ ⟨b.toArray⟩ = ⟨(a ++ b).toArray⟩ := by
  apply ByteArray.ext
  rw [ByteArray.data_append]
  simp

theorem conv_one (w : World) (b : UInt8) (t : TypeId) : (convert 73 9 (.slice (some ⟨w.heap.size, 0, none⟩) 1 1)).run Tryd.prog (w.alloc (.cells #[.int .u8 (b.toNat : Int)] t)) = .ok (.string ⟨#[b]⟩) (w.alloc (.cells #[.int .u8 (b.toNat : Int)] t)) := by
  have := run_convert_bytes_back (P := Tryd.prog) (w.alloc (.cells #[.int .u8 (b.toNat : Int)] t)) 73 9 5 ⟨w.heap.size, 0, none⟩ 1 [b] Tryd.underlying73 Tryd.underlying5 Tryd.underlying9 (fun j hj => by
    have : j = 0 := by simpa using hj
    subst this
    have h := (Blk.new w t #[.int .u8 (b.toNat : Int)]).cell 0
    simp [Addr.add])
  exact this

set_option maxRecDepth 100000 in
theorem digits_run (n : Nat) (hn : n < 9223372036854775808) (w : World) :
    Calls Tryd.prog 20 #[.int .i64 (n : Int)] w fun e w' => e = .returned (.string ⟨(digs n).toArray⟩) ∧ Below w.heap.size w w' := by
  induction n using Nat.strongRecOn generalizing w with
  | ind n ih =>
    by_cases h : n < 10
    · have h' : (n : Int) < 10 := by omega
      have hd := Lib.hid (digs_small h)
      have hc := conv_one w (dg n) 5
      rw [toNat_dg h] at hc
      have h0 : (0:Int) ≤ (n : Int) := by omega
      have hc' : (convert 73 9 (.slice (some ⟨w.heap.size, 0, none⟩) 1 1)).run Tryd.prog (w.alloc (.cells #[.int .u8 (48 + (n : Int))] 5)) = .ok (.string ⟨#[dg n]⟩) (w.alloc (.cells #[.int .u8 (48 + (n : Int))] 5)) := by
        simpa using hc
      clear ih hn h hc
      have hb := (Below.refl w.heap.size w).alloc (Nat.le_refl _) (.cells #[.int .u8 (48 + (n : Int))] 5)
      have HB := Lib.hid hb
      clear hb
      go_enter Tryd.func20, Tryd.ntmps20
      go_wp2_with fail
      go_ret
      rw [hd.out]
      exact ⟨rfl, HB.out⟩
    · have h' : ¬ (n : Int) < 10 := by omega
      have i1 := ih (n / 10) (by omega) (by omega)
      have i2 := ih (n % 10) (by omega) (by omega)
      have I1 := Lib.hid i1
      have I2 := Lib.hid i2
      have h1 : (n : Int) ≤ 9223372036854775807 := by omega
      have hl : (digs (n / 10)).length + (digs (n % 10)).length ≤ 100 := by
        have a := digs_len (n / 10) 19 (by omega)
        have b := digs_len (n % 10) 19 (by omega)
        omega
      have hd := Lib.hid (digs_big h)
      have hs := Lib.hid (digs_small (n := n % 10) (by omega))
      have hadd := fun w => run_string_add_lists (P := Tryd.prog) w (digs (n / 10)) (digs (n % 10)) (by omega) (by omega)
      clear ih i1 i2 hn h
      go_enter Tryd.func20, Tryd.ntmps20
      go_wp2_with fail
      refine (I1.out w).mono ?_
      rintro e w1 ⟨rfl, hb1⟩
      have HB1 := Lib.hid hb1
      clear hb1
      go_wp2_with fail
      refine (I2.out w1).mono ?_
      rintro e w2 ⟨rfl, hb2⟩
      have HB2 := Lib.hid hb2
      clear hb2
      go_wp2_with fail
      go_ret
      rw [hs.out, ← hd.out]
      exact ⟨rfl, HB1.out.trans (HB2.out.mono HB1.out.size)⟩
theorem slice_digit (d : Nat) (hd : d < 10) (k : IntKind) (w : World) : (Instr.slice 9 (.string ⟨#[48, 49, 50, 51, 52, 53, 54, 55, 56, 57]⟩) (some (.int k (d : Int))) (some (.int k ((d : Int) + 1))) none).run Tryd.prog w = .ok (.string ⟨#[dg d]⟩) w := by
  have h := run_slice_string (P := Tryd.prog) w 9 ⟨#[48, 49, 50, 51, 52, 53, 54, 55, 56, 57]⟩ k k (d : Int) ((d : Int) + 1) Tryd.underlying9 (by omega) (by omega) (by simp [ByteArray.size]; omega)
  rw [h]
  have e : ∀ d, d < 10 → (⟨#[48, 49, 50, 51, 52, 53, 54, 55, 56, 57]⟩ : ByteArray).extract d (d + 1) = ⟨#[dg d]⟩ := by decide
  have e1 : ((d : Int)).toNat = d := by omega
  have e2 : ((d : Int) + 1).toNat = d + 1 := by omega
  rw [e1, e2, e d hd]
set_option maxRecDepth 100000 in
theorem refdigits_run (n : Nat) (hn : n < 9223372036854775808) (w : World) :
    Calls Tryd.prog 35 #[.int .u64 (n : Int)] w fun e w' => e = .returned (.string ⟨(digs n).toArray⟩) ∧ w' = w := by
  induction n using Nat.strongRecOn generalizing w with
  | ind n ih =>
    by_cases h : n < 10
    · have h' : (n : Int) < 10 := by omega
      have hd := Lib.hid (digs_small h)
      have h0 : (0:Int) ≤ (n : Int) := by omega
      have hsl := slice_digit (n % 10) (by omega) .u64 w
      have e10 : ((n % 10 : Nat) : Int) = (n : Int) % 10 := by omega
      rw [e10, show n % 10 = n by omega] at hsl
      clear ih hn h e10
      go_enter Tryd.func35, Tryd.ntmps35
      go_wp2_with fail
      go_ret
      rw [hd.out]
      exact ⟨rfl, rfl⟩
    · have h' : ¬ (n : Int) < 10 := by omega
      have i1 := ih (n / 10) (by omega) (by omega)
      have I1 := Lib.hid i1
      have h1 : (n : Int) ≤ 9223372036854775807 := by omega
      have hl : (digs (n / 10)).length ≤ 100 := by
        have a := digs_len (n / 10) 19 (by omega)
        omega
      have hd := Lib.hid (digs_big h)
      have hadd := fun w => run_string_add_lists (P := Tryd.prog) w (digs (n / 10)) [dg (n % 10)] (by omega) (by simp)
      have hsl := slice_digit (n % 10) (by omega) .u64 w
      have e10 : ((n % 10 : Nat) : Int) = (n : Int) % 10 := by omega
      rw [e10] at hsl
      clear ih i1 hn h e10
      go_enter Tryd.func35, Tryd.ntmps35
      go_wp2_with fail
      refine (I1.out w).mono ?_
      rintro e w1 ⟨rfl, hb1⟩
      obtain rfl := hb1.symm
      go_wp2_with fail
      go_ret
      rw [← hd.out]
      exact ⟨rfl, rfl⟩

theorem small_run (n : Int) (w : World) : Calls Tryd.prog 25 #[.int .i64 n] w fun e w' => e = .returned (.bool (decide (0 ≤ n) && decide (n < 2147483648))) ∧ w' = w := by
  by_cases h : 0 ≤ n
  · go_enter Tryd.func25, Tryd.ntmps25
    go_wp2_with fail
    go_ret
    exact ⟨by simp [h] <;> omega, rfl⟩
  · go_enter Tryd.func25, Tryd.ntmps25
    go_wp2_with fail
    go_ret
    exact ⟨by simp [h] <;> omega, rfl⟩
theorem right1_run (n : Int) (w : World) : Calls Tryd.prog 27 #[.int .i64 n] w fun e w' => e = .returned (.bool (!(decide (0 ≤ n) && decide (n < 2147483648)))) ∧ w' = w := by
  have S := Lib.hid (small_run n w)
  go_enter Tryd.func27, Tryd.ntmps27
  go_wp2_with fail
  refine S.out.mono ?_
  rintro e w1 ⟨rfl, hb1⟩
  obtain rfl := hb1.symm
  go_wp2_with fail
  go_ret
  exact ⟨by simp, rfl⟩
end Go.Proofs.YtmhhnmbedlhflaaDoor
