/- The graph in memory, and New. -/
import Derived.Test.YtlnjnpedcbljcaaBase
namespace Go.Proofs.Ytlnjnpedcbljcaa
open Go.RowKit
theorem Try.info48 : (Try.prog.info? 48).map (fun i => (i.zero, i.size, i.bytes)) = some (some (.slice none 0 0), 1, 24) := by kernel_rfl
theorem Try.info4 : (Try.prog.info? 4).map (fun i => (i.zero, i.size, i.bytes)) = some (some (.bool false), 1, 1) := by kernel_rfl

/-- A graph: the struct's block, the block of rows, a block a row. -/
structure Graph (w : World) (B : Nat) (p mb : Nat) (rb : Nat → Nat) (n : Nat) (m : Nat → Nat → Bool) : Prop where
  obj : Blk w p 47 #[.bool true, .slice (some ⟨mb, 0, none⟩) n n]
  rows : w.rowIs mb 48 n (fun i => .slice (some ⟨rb i, 0, none⟩) n n)
  each : ∀ i, i < n → w.rowIs (rb i) 4 n (fun k => .bool (m i k))
  inj : ∀ i j, i < n → j < n → rb i = rb j → i = j
  lo : B ≤ p ∧ B ≤ mb ∧ ∀ i, i < n → B ≤ rb i

/-- While the rows are made. -/
structure Making (w wr : World) (n k : Nat) : Prop where
  since : w.Since w.heap.size wr
  size : wr.heap.size = w.heap.size + 2 + k
  obj : Blk wr (w.heap.size + 1) 47 #[.bool true, .slice (some ⟨w.heap.size, 0, none⟩) n n]
  rows : wr.rowIs w.heap.size 48 n (fun i => if i < k then .slice (some ⟨w.heap.size + 2 + i, 0, none⟩) n n else .slice none 0 0)
  each : ∀ i, i < k → wr.rowIs (w.heap.size + 2 + i) 4 n (fun _ => .bool false)

theorem making_start (w : World) (n : Nat) : Making w ((w.alloc (Obj.cells (madeCells #[Value.slice none 0 0] n) 48)).alloc (Obj.cells #[Value.bool true, Value.slice (some ⟨w.heap.size, 0, none⟩) n n] 47)) n 0 :=
  ⟨((World.Since.refl _ _).alloc (Nat.le_refl _) _).alloc (by simp) _, by simp, by have := Blk.new (w.alloc (Obj.cells (madeCells #[Value.slice none 0 0] n) 48)) 47 #[Value.bool true, Value.slice (some ⟨w.heap.size, 0, none⟩) n n]; simpa using this,
    ((World.rowIs_made w _ n 48).alloc _).congr (fun i _ => by simp), fun i hi => absurd hi (Nat.not_lt_zero _)⟩
theorem making_step {w wr : World} {n k : Nat} (h : Making w wr n k) :
    Making w ((wr.alloc (Obj.cells (madeCells #[Value.bool false] n) 4)).setCell ⟨w.heap.size, k, none⟩ (.slice (some ⟨w.heap.size + 2 + k, 0, none⟩) n n)).drew n (k + 1) := by
  have hz := h.size
  have hnew := World.rowIs_made wr (.bool false) n 4
  rw [hz] at hnew
  refine ⟨((h.since.alloc (by omega) _).setCell (Nat.le_refl _) _).drew, by simp [hz]; omega, ((h.obj.alloc _).far (by show w.heap.size + 1 ≠ w.heap.size; omega) _).drew, (((h.rows.alloc _).set k _).drew).congr (fun j _ => ?_), fun j hj => ?_⟩
  · by_cases e : j = k
    · subst e; simp
    · rw [if_neg e]
      by_cases hlt : j < k
      · rw [if_pos hlt, if_pos (by omega)]
      · rw [if_neg hlt, if_neg (by omega)]
  · by_cases e : j = k
    · subst e
      exact (hnew.setOther (by show w.heap.size + 2 + j ≠ w.heap.size; omega) _).drew
    · exact (((h.each j (by omega)).alloc _).setOther (by show w.heap.size + 2 + j ≠ w.heap.size; omega) _).drew
theorem making_end {w wr : World} {n : Nat} (h : Making w wr n n) : Graph wr w.heap.size (w.heap.size + 1) w.heap.size (fun i => w.heap.size + 2 + i) n (fun _ _ => false) :=
  ⟨h.obj, h.rows.congr (fun i hi => by rw [if_pos hi]), h.each, fun i j _ _ e => by omega, by omega, Nat.le_refl _, fun i _ => by omega⟩

set_option maxHeartbeats 400000 in
theorem new_no (n : Int) (w : World) (h : n < 0 ∨ 16 < n) :
    Calls Try.prog 4 #[.int .i64 n] w fun e w' => e = .returned (.tuple #[.pointer none, .int .i64 2]) ∧ w' = w := by
  rcases h with h | h
  · go_enter Try.func4, Try.ntmps4
    go_wp2
    go_ret2
    exact ⟨rfl, rfl⟩
  · have h' : ¬ n < 0 := by omega
    go_enter Try.func4, Try.ntmps4
    go_wp2
    go_ret2
    exact ⟨rfl, rfl⟩

set_option maxHeartbeats 1000000 in
theorem new_yes (n : Nat) (w : World) (hn : n ≤ 16) :
    Calls Try.prog 4 #[.int .i64 n] w fun e w' => e = .returned (.tuple #[.pointer (some ⟨w.heap.size + 1, 0, none⟩), .int .i64 0]) ∧
      w.Since w.heap.size w' ∧ w'.heap.size = w.heap.size + 2 + n ∧ Graph w' w.heap.size (w.heap.size + 1) w.heap.size (fun i => w.heap.size + 2 + i) n (fun _ _ => false) := by
  have hmk := run_make_row' (P := Try.prog) 45 48 (.slice none 0 0) 24 Try.underlying45 Try.info48 rfl .i64 .i64 n (by omega) (by omega)
  have hmk2 := run_make_row' (P := Try.prog) 48 4 (.bool false) 1 Try.underlying48 Try.info4 rfl .i64 .i64 n (by omega) (by omega)
  have h0 : ¬ (n : Int) < 0 := by omega
  have h1 : ¬ (16 : Int) < n := by omega
  go_enter Try.func4, Try.ntmps4
  go_wp2
  clear hmk
  go_loopg [21] n (fun g i wr => ∃ k : Nat, k ≤ n ∧ g = n - k ∧ i = .int .i64 k ∧ Making w wr n k)
  case atStart => exact ⟨0, Nat.zero_le _, rfl, rfl, making_start w n⟩
  case round =>
    obtain ⟨k, hk, rfl, rfl, hM⟩ := hrel
    by_cases hlt : k < n
    · have hz := hM.size
      have hc : ∀ o, (wr.alloc o).cell? ⟨w.heap.size, k, none⟩ = some (.slice none 0 0) := fun o => by have := (hM.rows.alloc o).cell hlt; simpa using this
      have hf : ∀ o, (wr.alloc o).frozen? ⟨w.heap.size, k, none⟩ = false := fun o => (hM.rows.alloc o).frozen k
      have hg : wr.cell? ⟨w.heap.size + 1, 1, none⟩ = some (.slice (some ⟨w.heap.size, 0, none⟩) n n) := by rw [hM.obj.cell]; rfl
      have hg2 : ∀ o, (wr.alloc o).cell? ⟨w.heap.size + 1, 1, none⟩ = some (.slice (some ⟨w.heap.size, 0, none⟩) n n) := fun o => by rw [(hM.obj.alloc o).cell]; rfl
      have hkn : (k : Int) < (n : Int) := by omega
      have hs := making_step hM
      go_wp2
      go_region
      go_wp2
      go_roundg (n - (k + 1))
      case measure => omega
      case rel => exact ⟨k + 1, by omega, rfl, by go_num, hs⟩
    · obtain rfl : k = n := by omega
      go_wp2
      go_ret2
      exact ⟨rfl, hM.since, hM.size, making_end hM⟩
end Go.Proofs.Ytlnjnpedcbljcaa
