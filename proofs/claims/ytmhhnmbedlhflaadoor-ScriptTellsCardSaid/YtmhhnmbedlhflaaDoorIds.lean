/- Ids as texts. -/
import Derived.Test.YtmhhnmbedlhflaaDoorHex
import Derived.Test.YtmhhnmbedlhflaaDoorRefHex
import Derived.Deep.WholeRow
namespace Go.Proofs.YtmhhnmbedlhflaaDoor
open Go.RowKit
theorem index_arr (cs : Array Value) (k : Nat) (v : Value) (hk : k < 32) (h : cs[k]? = some v) (w : World) : (Instr.index 40 (.agg cs) (.int .i64 (k : Int))).run Tryd.prog w = .ok v w := by
  have hn : (0 : Int) ≤ (k : Int) ∧ (k : Int) < ((32 : Nat) : Int) := by omega
  simp [Instr.index, run_underlying Tryd.underlying40, asIntOf, hn, go_sem]
  rw [if_pos hk, h]; rfl
theorem Tryd.size40 : (Tryd.prog.info? 40).map (·.size) = some 32 := by kernel_rfl
theorem Tryd.size39 : (Tryd.prog.info? 39).map (·.size) = some 32 := by kernel_rfl
set_option maxHeartbeats 1000000 in
set_option maxRecDepth 100000 in
theorem idtext_run (d : Bs) (hd : d.length = 32) (w : World) :
    Calls Tryd.prog 37 #[.agg (bcells d).toArray] w fun e w' => e = .returned (.string ⟨(hexB d).toArray⟩) ∧ Below w.heap.size w w' := by
  have hsz : (bcells d).toArray.size = 32 := by simp [bcells, hd]
  have hget : ∀ (k : Nat) c, d[k]? = some c → (bcells d).toArray[k]? = some (.int .u8 (c.toNat : Int)) := fun k c hc => by simp [bcells, hc]
  generalize (bcells d).toArray = cs at hsz hget
  have hblk := heap_alloc_new w (.cells cs 40)
  have HS := Lib.hid hsz
  have HGt := Lib.hid hget
  have HD := Lib.hid hd
  clear hsz hget hd
  go_enter Tryd.func37, Tryd.ntmps37
  go_wp2_with (refine wpList_load_row rfl 40 _ rfl w.heap.size rfl 40 cs (0, 0) _ hblk Tryd.underlying40 rfl (by rw [HS.out]; exact Tryd.size40) ?_)
  go_loopg [3, 7] 32 (fun gk v ii wr => ∃ k : Nat, k ≤ 32 ∧ gk = 32 - k ∧ ii = .int .i64 (k : Int) ∧ Owns wr w.heap.size 5 1 v (2 * k) (bcells (hexB (d.take k))) ∧ Below w.heap.size w wr)
  case atStart => exact ⟨0, Nat.zero_le _, by omega, rfl, Owns.nil _ _ _ _, (Below.refl _ _).alloc (Nat.le_refl _) _⟩
  case round =>
    obtain ⟨k, hkn, rfl, rfl, ho, hb⟩ := hrel
    have HO := Lib.hid ho
    have HB := Lib.hid hb
    by_cases hlt : k < 32
    · obtain ⟨c, hc⟩ : ∃ c, d[k]? = some c := ⟨_, List.getElem?_eq_getElem (by rw [HD.out]; exact hlt)⟩
      have hlt' : (k : Int) < 32 := by omega
      have hik := HGt.out k c hc
      have hcb := c.toNat_lt
      have htk : hexB (d.take (k + 1)) = hexB (d.take k) ++ [hx (c.toNat / 16), hx (c.toNat % 16)] := by
        rw [List.take_add_one, hc, hexB_append]; rfl
      have HT := Lib.hid htk
      have i1 := fun w => index_hex (c.toNat / 16) (by omega) .u8 w
      have i2 := fun w => index_hex (c.toNat % 16) (by omega) .u8 w
      have e1 : ((c.toNat / 16 : Nat) : Int) = (c.toNat : Int) / 16 := by omega
      have e2 : ((c.toNat % 16 : Nat) : Int) = (c.toNat : Int) % 16 := by omega
      rw [e1] at i1
      rw [e2] at i2
      obtain ⟨ti, hi, hz0, hz1, hz2⟩ := info_parts Tryd.info5
      have hsz := hb.size
      have hlen : 2 * k ≤ 64 := by omega
      clear ho hb htk hc e1 e2
      generalize hA : hx (c.toNat / 16) = A at i1
      generalize hB : hx (c.toNat % 16) = B at i2
      have HA := Lib.hid hA
      have HB' := Lib.hid hB
      clear hA hB
      generalize c.toNat = x at hik i1 i2 hcb HA HB' HT
      have hcb' : (x : Int) < 256 := by omega
      have hw1 : IntKind.u8.wrap ((x : Int) / 16) = (x : Int) / 16 := wrap_u8 _ (by omega) (by omega)
      have hw3 : (x : Int).tmod 16 = (x : Int) % 16 := Int.tmod_eq_emod_of_nonneg (by omega)
      have hidx : (Instr.index 40 (.agg cs) (.int .i64 (k : Int))).run Tryd.prog wr = .ok (.int .u8 (x : Int)) wr := index_arr cs k _ hlt hik wr
      go_wp2_with fail
      have hown1 := ((HO.out).alloc (.cells #[.int .u8 (A.toNat : Int), .int .u8 (B.toNat : Int)] 5))
      have hblk1 := heap_alloc_new wr (.cells #[.int .u8 (A.toNat : Int), .int .u8 (B.toNat : Int)] 5)
      go_region_held3 (fun _ => True) (trivial) ((refine step_append_owns _ (by rfl) _ _ 73 73 (by rfl) w.heap.size 5 ti (.int .u8 0) 1 1 Tryd.underlying73 hi hz0 hz1 hz2 rfl (by decide) _ _ _ (by rfl) hown1 _ 2 [.int .u8 (A.toNat : Int), .int .u8 (B.toNat : Int)] (by rfl) (Src.ofSlice _ Tryd.underlying73 _ 2 2 _ rfl (World.news_of_block hblk1) (by simp [Value.oneCell'])) (by unfold maxLen; omega) (by omega) (by simp; omega) ?_; intro v' w5 hown5 hgr5 hblk5 _))
      all_goals
        have HO5 := Lib.hid hown5
        have HG5 := Lib.hid hgr5
        clear hown5 hgr5 hblk5 hown1 hblk1
        go_wp2_with fail
        go_roundg (32 - (k + 1))
        case measure => omega
        case rel =>
          refine ⟨k + 1, by omega, rfl, by go_num, ?_, (HB.out.alloc hsz _).drew.grown HG5.out (by simp; omega) (fun j hj => (HO.out.block hj).1)⟩
          rw [HT.out, bcells_append, HA.out, HB'.out]
          exact HO5.out
    · obtain rfl : 32 = k := by omega
      have ht : d.take 32 = d := List.take_of_length_le (by rw [HD.out]; exact Nat.le_refl _)
      rw [ht] at HO
      have hcv := conv_owns HO.out
      clear ho hb
      go_wp2_with fail
      go_ret
      exact ⟨rfl, HB.out⟩
set_option maxHeartbeats 1000000 in
set_option maxRecDepth 100000 in
theorem reftext_run (d : Bs) (hd : d.length = 32) (w : World) :
    Calls Tryd.prog 15 #[.agg (bcells d).toArray] w fun e w' => e = .returned (.string ⟨(hexB d).toArray⟩) ∧ Below w.heap.size w w' := by
  have hget : ∀ (k : Nat) c, d[k]? = some c → (bcells d).toArray[k]? = some (.int .u8 (c.toNat : Int)) := fun k c hc => by simp [bcells, hc]
  generalize (bcells d).toArray = cs at hget
  have hblk : Blk (w.alloc (.cells cs 39)) w.heap.size 39 cs := Blk.new w 39 cs
  have HK := Lib.hid hblk
  have HGt := Lib.hid hget
  have HD := Lib.hid hd
  clear hget hd hblk
  go_enter Tryd.func15, Tryd.ntmps15
  go_wp2_with fail
  go_loopg [3, 4] 32 (fun gk v ii wr => ∃ k : Nat, k ≤ 32 ∧ gk = 32 - k ∧ ii = .int .i64 (k : Int) ∧ v = .string ⟨(hexB (d.take k)).toArray⟩ ∧ Blk wr w.heap.size 39 cs ∧ Below w.heap.size w wr)
  case atStart => exact ⟨0, Nat.zero_le _, by omega, rfl, rfl, HK.out, (Below.refl _ _).alloc (Nat.le_refl _) _⟩
  case round =>
    obtain ⟨k, hkn, rfl, rfl, rfl, hk, hb⟩ := hrel
    have HB := Lib.hid hb
    have HK2 := Lib.hid hk
    by_cases hlt : k < 32
    · obtain ⟨c, hc⟩ : ∃ c, d[k]? = some c := ⟨_, List.getElem?_eq_getElem (by rw [HD.out]; exact hlt)⟩
      have hlt' : (k : Int) < 32 := by omega
      have hcell : wr.cell? ⟨w.heap.size, k, none⟩ = some (.int .u8 (c.toNat : Int)) := by rw [hk.cell]; exact HGt.out k c hc
      have hcb := c.toNat_lt
      have htk : hexB (d.take (k + 1)) = hexB (d.take k) ++ [hx (c.toNat / 16), hx (c.toNat % 16)] := by
        rw [List.take_add_one, hc, hexB_append]; rfl
      have HT := Lib.hid htk
      have i1 := fun w => slice_hex (c.toNat / 16) (by omega) .u8 w
      have i2 := fun w => slice_hex (c.toNat % 16) (by omega) .u8 w
      have e1 : ((c.toNat / 16 : Nat) : Int) = (c.toNat : Int) / 16 := by omega
      have e2 : ((c.toNat % 16 : Nat) : Int) = (c.toNat : Int) % 16 := by omega
      rw [e1] at i1
      rw [e2] at i2
      have hlen : (hexB (d.take k)).length ≤ 2000000 := by rw [hexB_len, List.length_take]; omega
      clear hb hk htk hc e1 e2
      generalize hA : hx (c.toNat / 16) = A at i1
      generalize hB : hx (c.toNat % 16) = B at i2
      have HA := Lib.hid hA
      have HB' := Lib.hid hB
      clear hA hB
      generalize c.toNat = x at hcell i1 i2 hcb HA HB' HT
      have hcb' : (x : Int) < 256 := by omega
      have hw3 : (x : Int).tmod 16 = (x : Int) % 16 := Int.tmod_eq_emod_of_nonneg (by omega)
      have hw1 : IntKind.u8.wrap ((x : Int) / 16) = (x : Int) / 16 := wrap_u8' _ (by omega) (by omega)
      have hw4 : IntKind.u8.wrap ((x : Int) / 16 + 1) = (x : Int) / 16 + 1 := wrap_u8' _ (by omega) (by omega)
      have hw5 : IntKind.u8.wrap ((x : Int) % 16 + 1) = (x : Int) % 16 + 1 := wrap_u8' _ (by omega) (by omega)
      generalize hL : hexB (d.take k) = L at hlen ⊢
      have a1 := fun w => run_string_add_lists (P := Tryd.prog) w L [A] (by omega) (by simp)
      have a2 := fun w => run_string_add_lists (P := Tryd.prog) w (L ++ [A]) [B] (by simp; omega) (by simp)
      have HL := Lib.hid hL
      clear hL hlen
      go_wp2_with fail
      go_quiet (fail)
      go_wp2_with fail
      go_roundg (32 - (k + 1))
      case measure => omega
      case rel =>
        refine ⟨k + 1, by omega, rfl, by go_num, ?_, HK2.out, below_drewN HB.out _⟩
        rw [HT.out, HL.out, HA.out, HB'.out]
    · obtain rfl : 32 = k := by omega
      have ht : d.take 32 = d := List.take_of_length_le (by rw [HD.out]; exact Nat.le_refl _)
      rw [ht]
      clear hb hk
      go_wp2_with fail
      go_ret
      exact ⟨rfl, HB.out⟩
end Go.Proofs.YtmhhnmbedlhflaaDoor
