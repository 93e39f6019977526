/- Script's lines, plainly: numbers by digits, texts by their bytes in hexadecimal digits. -/
import Derived.Lib.Join
namespace Go.Proofs.YtmhhnmbedlhflaaDoor
abbrev Bs := List UInt8
def dg (d : Nat) : UInt8 := UInt8.ofNat (48 + d)
def digs (n : Nat) : Bs := if n < 10 then [dg n] else digs (n / 10) ++ [dg (n % 10)]
termination_by n
theorem digs_small {n : Nat} (h : n < 10) : digs n = [dg n] := by rw [digs, if_pos h]
theorem digs_big {n : Nat} (h : ¬ n < 10) : digs n = digs (n / 10) ++ [dg (n % 10)] := by rw [digs, if_neg h]
theorem digs_len (n k : Nat) (h : n < 10 ^ (k + 1)) : (digs n).length ≤ k + 1 := by
  induction k generalizing n with
  | zero => rw [digs_small (by simpa using h)]; simp
  | succ k ih =>
    by_cases h0 : n < 10
    · rw [digs_small h0]; simp
    · rw [digs_big h0, List.length_append]
      have := ih (n / 10) (by rw [Nat.pow_succ] at h; omega)
      simp; omega
theorem digs_pos (n : Nat) : 0 < (digs n).length := by
  by_cases h : n < 10
  · rw [digs_small h]; simp
  · rw [digs_big h]; simp
/-- One hexadecimal digit. -/
def hx (d : Nat) : UInt8 := if d < 10 then UInt8.ofNat (48 + d) else UInt8.ofNat (87 + d)
def hexB : Bs → Bs
  | [] => []
  | b :: r => hx (b.toNat / 16) :: hx (b.toNat % 16) :: hexB r
theorem hexB_append (a b : Bs) : hexB (a ++ b) = hexB a ++ hexB b := by
  induction a with
  | nil => rfl
  | cons x r ih => simp [hexB, ih]
theorem hexB_len (a : Bs) : (hexB a).length = 2 * a.length := by
  induction a with
  | nil => rfl
  | cons x r ih => simp only [hexB, List.length_cons, ih]; omega
def hexT (a : Bs) : Bs := if a = [] then [45] else hexB a
end Go.Proofs.YtmhhnmbedlhflaaDoor
