/- A text is read. -/
import Derived.Test.YtmhhnmbedlhflaaDoorHex
import Derived.Test.YtmhhnmbedlhflaaDoorShelf
namespace Go.Proofs.YtmhhnmbedlhflaaDoor
open Go.RowKit

def ixI (c : UInt8) : Int := match unhex c with
  | some d => d
  | none => -1
theorem ix_all : ∀ n, n < 256 → Lib.indexByte [48, 49, 50, 51, 52, 53, 54, 55, 56, 57, 97, 98, 99, 100, 101, 102] (UInt8.ofNat n) = ixI (UInt8.ofNat n) := by decide +kernel
theorem ix_run (c : UInt8) (w : World) : Calls Tryd.prog 43 #[.string ⟨#[48, 49, 50, 51, 52, 53, 54, 55, 56, 57, 97, 98, 99, 100, 101, 102]⟩, .int .u8 (c.toNat : Int)] w fun e w' => e = .returned (.int .i64 (ixI c)) ∧ w' = w := by
  refine (Tryd.strings_IndexByte _ _ w).mono ?_
  rintro e w' ⟨rfl, hw⟩
  have h := ix_all c.toNat c.toNat_lt
  have e1 : UInt8.ofNat c.toNat = c := UInt8.toNat_inj.1 (by rw [UInt8.toNat_ofNat']; have := c.toNat_lt; omega)
  have e2 : ((c.toNat : Int)).toNat.toUInt8 = c := by rw [Int.toNat_natCast]; exact e1
  rw [e1] at h
  rw [e2]
  exact ⟨by rw [← h], hw⟩
theorem unhexB_step (x y : UInt8) (r : Bs) : unhexB (x :: y :: r) = match unhex x, unhex y with
    | some a, some b => (unhexB r).map (UInt8.ofNat (a * 16 + b) :: ·)
    | _, _ => none := by
  rw [unhexB]
  cases unhex x <;> cases unhex y <;> cases unhexB r <;> rfl

theorem bytes_dash (w : World) : Calls Tryd.prog 33 #[.string ⟨#[45]⟩] w fun e w' => e = .returned (.tuple #[.string ⟨#[]⟩, .bool true]) ∧ w' = w := by
  go_enter Tryd.func33, Tryd.ntmps33
  go_wp2_with fail
  go_ret2
  exact ⟨rfl, rfl⟩
set_option maxHeartbeats 1000000 in
set_option maxRecDepth 100000 in
theorem bytes_go (s : Bs) (hd : s ≠ [45]) (hl : s.length ≤ 1000000) (w : World) :
    Calls Tryd.prog 33 #[.string ⟨s.toArray⟩] w fun e w' => (∃ v, e = .returned (.tuple #[.string ⟨v.toArray⟩, .bool (txtB s).isSome]) ∧ ∀ a, txtB s = some a → v = a) ∧ Below w.heap.size w w' := by
  have hne : (s == [45]) = false := by simpa using hd
  have hl' : (s.length : Int) ≤ 1000000 := by omega
  have HD := Lib.hid hd
  clear hd
  go_enter Tryd.func33, Tryd.ntmps33
  go_wp2_with fail
  go_loopg [4, 5] s.length (fun gk v ii wr => ∃ (k : Nat) (b : Bs), 2 * k ≤ s.length ∧ gk = s.length - 2 * k ∧ ii = .int .i64 (2 * (k : Int)) ∧ b.length = k ∧ Owns wr w.heap.size 5 1 v k (bcells b) ∧ unhexB s = (unhexB (s.drop (2 * k))).map (b ++ ·) ∧ Below w.heap.size w wr)
  case atStart => exact ⟨0, [], Nat.zero_le _, by omega, rfl, rfl, Owns.nil _ _ _ _, by simp, Below.refl _ _⟩
  case round =>
    obtain ⟨k, b, hkn, rfl, rfl, hbk, ho, hu, hb⟩ := hrel
    have HO := Lib.hid ho
    have HB := Lib.hid hb
    have HU := Lib.hid hu
    by_cases hlt : 2 * k + 1 < s.length
    · obtain ⟨x, hx⟩ : ∃ c, s[2 * k]? = some c := ⟨_, List.getElem?_eq_getElem (by omega)⟩
      obtain ⟨y, hy⟩ : ∃ c, s[2 * k + 1]? = some c := ⟨_, List.getElem?_eq_getElem hlt⟩
      have hlt' : 2 * (k : Int) + 1 < (s.length : Int) := by omega
      have hi1 := fun w => index_str 9 Tryd.underlying9 s (2 * k) x hx .i64 w
      have hi2 := fun w => index_str 9 Tryd.underlying9 s (2 * k + 1) y hy .i64 w
      have hdr : s.drop (2 * k) = x :: y :: s.drop (2 * (k + 1)) := by
        rw [List.drop_eq_getElem_cons (by omega), List.drop_eq_getElem_cons hlt]
        rw [List.getElem?_eq_getElem (by omega)] at hx hy
        injection hx with hx; injection hy with hy
        rw [hx, hy]; rfl
      have c1 := Lib.hid (fun w => ix_run x w)
      have c2 := Lib.hid (fun w => ix_run y w)
      rw [hdr, unhexB_step] at hu
      have e1 : ((2 * k : Nat) : Int) = 2 * (k : Int) := by omega
      have e2 : ((2 * k + 1 : Nat) : Int) = 2 * (k : Int) + 1 := by omega
      rw [e1] at hi1
      rw [e2] at hi2
      have hx0 := x.toNat_lt
      have hy0 := y.toNat_lt
      have hk0 : (0 : Int) ≤ 2 * (k : Int) := by omega
      clear ho hb hdr e1 e2 hx hy HU
      cases hX : unhex x with
      | none =>
        have he : unhexB s = none := by rw [hu, hX]; rfl
        have HE := Lib.hid he
        have hv : ixI x = -1 := by unfold ixI; rw [hX]
        rw [hv] at c1
        clear he hu hX hv
        go_wp2_with fail
        go_quiet (first | exact Calls.quiet_of_same (c1.out _) | exact Calls.quiet_of_same (c2.out _))
        go_wp2_with fail
        go_ret2
        have e : txtB s = none := by unfold txtB; rw [if_neg HD.out, HE.out]; split <;> rfl
        rw [e]
        exact ⟨⟨[], rfl, fun a h => by cases h⟩, below_drewN HB.out _⟩
      | some p =>
        cases hY : unhex y with
        | none =>
          have he : unhexB s = none := by rw [hu, hX, hY]; rfl
          have HE := Lib.hid he
          have hv : ixI x = (p : Int) := by unfold ixI; rw [hX]
          have hv2 : ixI y = -1 := by unfold ixI; rw [hY]
          rw [hv] at c1
          rw [hv2] at c2
          have hp := (hx_unhex hX).2
          have hp0 : ¬ (p : Int) < 0 := by omega
          clear he hu hX hv hY hv2
          go_wp2_with fail
          go_quiet (first | exact Calls.quiet_of_same (c1.out _) | exact Calls.quiet_of_same (c2.out _))
          go_wp2_with fail
          go_ret2
          have e : txtB s = none := by unfold txtB; rw [if_neg HD.out, HE.out]; split <;> rfl
          rw [e]
          exact ⟨⟨[], rfl, fun a h => by cases h⟩, below_drewN HB.out _⟩
        | some q =>
          have he : unhexB s = (unhexB (s.drop (2 * (k + 1)))).map ((b ++ [UInt8.ofNat (p * 16 + q)]) ++ ·) := by
            rw [hu, hX, hY]
            simp only [Option.map_map]
            congr 1
            funext z
            simp
          have HE := Lib.hid he
          have hv : ixI x = (p : Int) := by unfold ixI; rw [hX]
          have hv2 : ixI y = (q : Int) := by unfold ixI; rw [hY]
          rw [hv] at c1
          rw [hv2] at c2
          have hp := (hx_unhex hX).2
          have hq := (hx_unhex hY).2
          have hp0 : ¬ (p : Int) < 0 := by omega
          have hq0 : ¬ (q : Int) < 0 := by omega
          have hpq : (UInt8.ofNat (p * 16 + q)).toNat = p * 16 + q := by rw [UInt8.toNat_ofNat']; omega
          have hpz : (p : Int) < 16 := by omega
          have hqz : (q : Int) < 16 := by omega
          have hp1 : (0 : Int) ≤ (p : Int) := by omega
          have hq1 : (0 : Int) ≤ (q : Int) := by omega
          have hw1 : IntKind.u8.wrap ((p : Int) * 16 + (q : Int)) = (p : Int) * 16 + (q : Int) := wrap_u8 _ (by omega) (by omega)
          obtain ⟨ti, hi, hz0, hz1, hz2⟩ := info_parts Tryd.info5
          have hsz := HB.out.size
          have HP := Lib.hid hpq
          clear he hu hX hv hY hv2 hpq
          go_wp2_with fail
          go_quiet (first | exact Calls.quiet_of_same (c1.out _) | exact Calls.quiet_of_same (c2.out _))
          have hown1 := ((HO.out.drewN nq).alloc (.cells #[.int .u8 ((p : Int) * 16 + (q : Int))] 5))
          have hblk1 := heap_alloc_new (wr.drewN nq) (.cells #[.int .u8 ((p : Int) * 16 + (q : Int))] 5)
          go_wp2_with (at_builtin; refine wpList_append_owns _ rfl _ _ 73 73 rfl w.heap.size 5 ti (.int .u8 0) 1 1 Tryd.underlying73 hi hz0 hz1 hz2 rfl (by decide) _ _ _ rfl hown1 _ 1 [.int .u8 ((p : Int) * 16 + (q : Int))] rfl (Src.ofSlice _ Tryd.underlying73 _ 1 1 _ rfl (World.news_of_block hblk1) (by simp [Value.oneCell'])) (by unfold maxLen; omega) (by omega) (by simp; omega) ?_)
          intro v' w5 hown5 hgr5 hblk5 _
          have HO5 := Lib.hid hown5
          have HG5 := Lib.hid hgr5
          clear hown5 hgr5 hblk5 hown1 hblk1
          go_wp2_with fail
          go_roundg (s.length - 2 * (k + 1))
          case measure => omega
          case rel =>
            refine ⟨k + 1, b ++ [UInt8.ofNat (p * 16 + q)], by omega, rfl, by go_num, by simp [hbk], ?_, HE.out, ?_⟩
            · rw [bcells_append]
              have e : bcells [UInt8.ofNat (p * 16 + q)] = [.int .u8 ((p : Int) * 16 + (q : Int))] := by simp [bcells, HP.out]; try omega
              rw [e]
              exact HO5.out
            · exact ((below_drewN HB.out nq).alloc (by simp; omega) _).grown HG5.out (by simp; omega) (fun j hj => (HO.out.block hj).1)
    · have hcv := conv_owns HO.out
      have hlt' : ¬ 2 * (k : Int) + 1 < (s.length : Int) := by omega
      have hev : (s.length : Int) = 2 * (k : Int) ∨ (s.length : Int) = 2 * (k : Int) + 1 := by omega
      clear ho hb hu
      by_cases h0 : s.isEmpty
      · have h0' : s = [] := by simpa using h0
        have HN := Lib.hid h0'
        clear h0' HU HD
        go_wp2_with fail
        go_ret2
        have e : txtB s = none := by rw [HN.out]; rfl
        rw [e]
        exact ⟨⟨b, rfl, fun a h => by cases h⟩, HB.out⟩
      · have h0' : s ≠ [] := by simpa using h0
        have HN := Lib.hid h0'
        clear h0'
        go_wp2_with fail
        go_ret2
        have e : txtB s = unhexB s := by unfold txtB; rw [if_neg HD.out, if_neg HN.out]
        rw [e, HU.out]
        by_cases hk2 : s.length = 2 * k
        · have e2 : s.drop (2 * k) = [] := List.drop_eq_nil_of_le (by omega)
          rw [e2]
          have e3 : ((s.length : Int) % 2 == 0) = true := by simp; omega
          rw [e3]
          exact ⟨⟨b, rfl, fun a h => by simpa [unhexB] using h⟩, HB.out⟩
        · have e2 : ∃ z, s.drop (2 * k) = [z] := ⟨s[2 * k]'(by omega), by rw [List.drop_eq_getElem_cons (by omega), List.drop_eq_nil_of_le (by omega)]⟩
          obtain ⟨z, e2⟩ := e2
          rw [e2]
          have e3 : ((s.length : Int) % 2 == 0) = false := by simp; omega
          rw [e3]
          exact ⟨⟨b, rfl, fun a h => by simp [unhexB] at h⟩, HB.out⟩
theorem bytes_run (s : Bs) (hl : s.length ≤ 1000000) (w : World) :
    Calls Tryd.prog 33 #[.string ⟨s.toArray⟩] w fun e w' => (∃ v, e = .returned (.tuple #[.string ⟨v.toArray⟩, .bool (txtB s).isSome]) ∧ ∀ a, txtB s = some a → v = a) ∧ Below w.heap.size w w' := by
  by_cases h : s = [45]
  · subst h
    refine (bytes_dash w).mono ?_
    rintro e w' ⟨rfl, rfl⟩
    exact ⟨⟨[], rfl, fun a h => by simpa [txtB] using h⟩, Below.refl _ _⟩
  · exact bytes_go s h hl w
end Go.Proofs.YtmhhnmbedlhflaaDoor
