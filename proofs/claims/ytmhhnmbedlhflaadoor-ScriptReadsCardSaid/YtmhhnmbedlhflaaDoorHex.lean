/- Texts as hexadecimal digits. -/
import Derived.Test.YtmhhnmbedlhflaaDoorNumber
import Derived.Test.YtmhhnmbedlhflaaDoorStep
import Derived.StillTailTactics
namespace Go.Proofs.YtmhhnmbedlhflaaDoor
open Go.RowKit

theorem Tryd.info5 : (Tryd.prog.info? 5).map (fun i => (i.zero, i.size, i.bytes)) = some (some (.int .u8 0), 1, 1) := by kernel_rfl
def bcells (l : Bs) : List Value := l.map fun b => .int .u8 (b.toNat : Int)
theorem bcells_append (a b : Bs) : bcells (a ++ b) = bcells a ++ bcells b := by simp [bcells]
theorem bcells_len (a : Bs) : (bcells a).length = a.length := by simp [bcells]
theorem index_hex (d : Nat) (hd : d < 16) (q : IntKind) (w : World) : (Instr.index 9 (.string ⟨#[48, 49, 50, 51, 52, 53, 54, 55, 56, 57, 97, 98, 99, 100, 101, 102]⟩) (.int q (d : Int))).run Tryd.prog w = .ok (.int .u8 ((hx d).toNat : Int)) w := by
  have e : ∀ d, d < 16 → ([48, 49, 50, 51, 52, 53, 54, 55, 56, 57, 97, 98, 99, 100, 101, 102] : Bs)[d]? = some (hx d) := by decide
  exact index_str 9 Tryd.underlying9 _ d _ (e d hd) q w
theorem conv_owns {w : World} {base : Nat} {v : Value} {n : Nat} {l : Bs} (h : Owns w base 5 1 v n (bcells l)) : (convert 73 9 v).run Tryd.prog w = .ok (.string ⟨l.toArray⟩) w := by
  have hn : n = l.length := by have := h.1; rw [bcells_len] at this; omega
  rcases h.2 with ⟨rfl, h0⟩ | ⟨g, off, cap, cur, rfl, hbg, hg, hnc, _, _, hx⟩
  · have hl : l = [] := List.eq_nil_of_length_eq_zero (by omega)
    subst hl
    exact run_convert_bytes_nil w 73 5 Tryd.underlying73 Tryd.underlying5 0 0 9 Tryd.underlying9
  · subst hn
    refine run_convert_bytes_back w 73 9 5 ⟨g, off, none⟩ cap l Tryd.underlying73 Tryd.underlying5 Tryd.underlying9 (fun j hj => ?_)
    have hadd : (⟨g, off, none⟩ : Addr).add j = ⟨g, off + j, none⟩ := by unfold Addr.add; split <;> simp_all
    rw [hadd, cell_of_row w g (off + j) cur 5 (0, 0) hg, hx j (by omega)]
    simp [bcells, hj]
theorem wrap_u8 (z : Int) (h0 : 0 ≤ z) (h : z < 256) : IntKind.u8.wrap z = z := by
  unfold IntKind.wrap
  simp [IntKind.bits, IntKind.signed]
  omega
theorem hex_none (w : World) : Calls Tryd.prog 22 #[.string ⟨#[]⟩] w fun e w' => e = .returned (.string ⟨#[45]⟩) ∧ w' = w := by
  go_enter Tryd.func22, Tryd.ntmps22
  go_wp2_with fail
  go_ret
  exact ⟨rfl, rfl⟩
set_option maxHeartbeats 1000000 in
set_option maxRecDepth 100000 in
theorem hex_some (s : Bs) (h1 : 0 < s.length) (hl : s.length ≤ 8388608) (w : World) :
    Calls Tryd.prog 22 #[.string ⟨s.toArray⟩] w fun e w' => e = .returned (.string ⟨(hexB s).toArray⟩) ∧ Below w.heap.size w w' := by
  have hne : s.isEmpty = false := by cases s <;> simp at h1 ⊢
  have hl' : (s.length : Int) ≤ 8388608 := by omega
  go_enter Tryd.func22, Tryd.ntmps22
  go_wp2_with fail
  go_loopg [3, 9] s.length (fun gk v ii wr => ∃ k : Nat, k ≤ s.length ∧ gk = s.length - k ∧ ii = .int .i64 (k : Int) ∧ Owns wr w.heap.size 5 1 v (2 * k) (bcells (hexB (s.take k))) ∧ Below w.heap.size w wr)
  case atStart => exact ⟨0, Nat.zero_le _, by omega, rfl, Owns.nil _ _ _ _, Below.refl _ _⟩
  case round =>
    obtain ⟨k, hkn, rfl, rfl, ho, hb⟩ := hrel
    have HO := Lib.hid ho
    have HB := Lib.hid hb
    by_cases hlt : k < s.length
    · obtain ⟨c, hc⟩ : ∃ c, s[k]? = some c := ⟨_, List.getElem?_eq_getElem hlt⟩
      have hlt' : (k : Int) < (s.length : Int) := by omega
      have hik := fun w => index_str 9 Tryd.underlying9 s k c hc .i64 w
      have hcb := c.toNat_lt
      have htk : hexB (s.take (k + 1)) = hexB (s.take k) ++ [hx (c.toNat / 16), hx (c.toNat % 16)] := by
        rw [List.take_add_one, hc, hexB_append]; rfl
      have HT := Lib.hid htk
      have i1 := fun w => index_hex (c.toNat / 16) (by omega) .u8 w
      have i2 := fun w => index_hex (c.toNat % 16) (by omega) .u8 w
      have e1 : ((c.toNat / 16 : Nat) : Int) = (c.toNat : Int) / 16 := by omega
      have e2 : ((c.toNat % 16 : Nat) : Int) = (c.toNat : Int) % 16 := by omega
      rw [e1] at i1
      rw [e2] at i2
      obtain ⟨ti, hi, hz0, hz1, hz2⟩ := info_parts Tryd.info5
      have hsz := hb.size
      have hlen : 2 * k ≤ 16777216 := by omega
      clear ho hb htk hc e1 e2
      generalize hA : hx (c.toNat / 16) = A at i1
      generalize hB : hx (c.toNat % 16) = B at i2
      have HA := Lib.hid hA
      have HB' := Lib.hid hB
      clear hA hB
      generalize c.toNat = x at hik i1 i2 hcb HA HB' HT
      have hcb' : (x : Int) < 256 := by omega
      have hw1 : IntKind.u8.wrap ((x : Int) / 16) = (x : Int) / 16 := wrap_u8 _ (by omega) (by omega)
      have hw3 : (x : Int).tmod 16 = (x : Int) % 16 := Int.tmod_eq_emod_of_nonneg (by omega)
      have hw2 : IntKind.u8.wrap ((x : Int) % 16) = (x : Int) % 16 := wrap_u8 _ (by omega) (by omega)
      go_wp2_with fail
      have hown1 := fun n => ((HO.out.drewN n).alloc (.cells #[.int .u8 (A.toNat : Int), .int .u8 (B.toNat : Int)] 5))
      have hblk1 := heap_alloc_new wr (.cells #[.int .u8 (A.toNat : Int), .int .u8 (B.toNat : Int)] 5)
      go_region_held3 (fun _ => True) (trivial) ((refine step_append_owns _ (by rfl) _ _ 73 73 (by rfl) w.heap.size 5 ti (.int .u8 0) 1 1 Tryd.underlying73 hi hz0 hz1 hz2 rfl (by decide) _ _ _ (by rfl) (hown1 0) _ 2 [.int .u8 (A.toNat : Int), .int .u8 (B.toNat : Int)] (by rfl) (Src.ofSlice _ Tryd.underlying73 _ 2 2 _ rfl (World.news_of_block hblk1) (by simp [Value.oneCell'])) (by unfold maxLen; omega) (by omega) (by simp; omega) ?_; intro v' w5 hown5 hgr5 hblk5 _))
      all_goals
        have HO5 := Lib.hid hown5
        have HG5 := Lib.hid hgr5
        clear hown5 hgr5 hblk5 hown1 hblk1
        go_wp2_with fail
        go_roundg (s.length - (k + 1))
        case measure => omega
        case rel =>
          refine ⟨k + 1, by omega, rfl, by go_num, ?_, (HB.out.alloc hsz _).drew.grown HG5.out (by simp; omega) (fun j hj => (HO.out.block hj).1)⟩
          rw [HT.out, bcells_append, HA.out, HB'.out]
          exact HO5.out
    · obtain rfl : s.length = k := by omega
      rw [List.take_length] at HO
      have hcv := conv_owns HO.out
      clear ho hb
      go_wp2_with fail
      go_ret
      exact ⟨rfl, HB.out⟩
theorem hex_run (s : Bs) (hl : s.length ≤ 8388608) (w : World) :
    Calls Tryd.prog 22 #[.string ⟨s.toArray⟩] w fun e w' => e = .returned (.string ⟨(hexT s).toArray⟩) ∧ Below w.heap.size w w' := by
  by_cases h : s = []
  · subst h
    exact (hex_none w).mono fun e w' ⟨he, hw⟩ => ⟨he, hw ▸ Below.refl _ _⟩
  · unfold hexT
    rw [if_neg h]
    exact hex_some s (by cases s; exact absurd rfl h; simp) hl w
end Go.Proofs.YtmhhnmbedlhflaaDoor
