/- Way, Far. -/
import Derived.Test.YtlnjnpedcbljcaaRev
namespace Go.Proofs.Ytlnjnpedcbljcaa
open Go.RowKit RoutePlain

theorem way_out (w : World) (p n mb : Nat) (a b : Int) (ho : Blk w p 47 #[.bool true, .slice (some ⟨mb, 0, none⟩) n n]) (h : isB n a = false ∨ isB n b = false) :
    Calls Try.prog 13 #[.pointer (some ⟨p, 0, none⟩), .int .i64 a, .int .i64 b] w fun e w' => e = .returned (.slice none 0 0) ∧ w' = w := by
  have H := Lib.hid ho
  clear ho
  cases ha : isB n a
  · have HA := Lib.hid ha
    clear ha h
    go_enter Try.func13, Try.ntmps13
    go_wp2_with fail
    go_step3
    go_wp2_with fail
    refine (is_graph w p n mb a H.out).mono ?_
    rw [HA.out]
    rintro e w' ⟨rfl, rfl⟩
    go_wp2
    (try rw [Exit.noGoto_ret])
    go_ret
    exact ⟨rfl, rfl⟩
  · have hb : isB n b = false := by
      rcases h with h | h
      · rw [ha] at h; cases h
      · exact h
    have HA := Lib.hid ha
    have HB := Lib.hid hb
    clear ha h hb
    go_enter Try.func13, Try.ntmps13
    go_wp2_with fail
    go_step3
    go_wp2_with fail
    refine (is_graph w p n mb a H.out).mono ?_
    rw [HA.out]
    rintro e w' ⟨rfl, rfl⟩
    go_wp2_with fail
    refine (is_graph w' p n mb b H.out).mono ?_
    rw [HB.out]
    rintro e w' ⟨rfl, rfl⟩
    go_wp2
    (try rw [Exit.noGoto_ret])
    go_ret
    exact ⟨rfl, rfl⟩

/-- One behind the other, each meets the next. -/
structure Path (m : Nat → Nat → Bool) (a b : Nat) (xs : List Nat) : Prop where
  head : xs[0]? = some a
  last : xs[xs.length - 1]? = some b
  step : ∀ i x y, xs[i]? = some x → xs[i + 1]? = some y → m x y = true

theorem path_reverse {m : Nat → Nat → Bool} {a b k : Nat} {os : List Nat} (hk : os.length = k + 1) (hx : os[k]? = some a) (h0 : os[0]? = some b) (hst : ∀ i x y, os[i]? = some x → os[i + 1]? = some y → m y x = true) : Path m a b os.reverse := by
  refine ⟨?_, ?_, fun i x y h1 h2 => ?_⟩
  · rw [List.getElem?_reverse (by omega), hk, show k + 1 - 1 - 0 = k from by omega]; exact hx
  · rw [List.length_reverse, List.getElem?_reverse (by omega), show os.length - 1 - (os.length - 1) = 0 from by omega]; exact h0
  · have l2 := (List.getElem?_eq_some_iff.1 h2).1
    rw [List.length_reverse] at l2
    rw [List.getElem?_reverse (by omega)] at h1 h2
    refine hst (os.length - 1 - (i + 1)) y x h2 ?_
    rw [show os.length - 1 - (i + 1) + 1 = os.length - 1 - i from by omega]
    exact h1

/-- What Way comes to. -/
def WayIs (w w' : World) (m : Nat → Nat → Bool) (n a b : Nat) (e : Ending) : Prop :=
  ∃ B lev, Tree m n a B lev ∧ Below w.heap.size w w' ∧
    ((B b = none ∧ e = .returned (.slice none 0 0)) ∨ ∃ v xs, (B b).isSome ∧ e = .returned v ∧ xs.length = lev b + 1 ∧ Path m a b xs ∧ Owns w' w.heap.size 3 1 v xs.length (ints xs))

set_option maxHeartbeats 1000000 in
theorem way_in (w : World) (B0 p mb n : Nat) (rb : Nat → Nat) (m : Nat → Nat → Bool) (a b : Nat) (hG : Graph w B0 p mb rb n m) (ha : a < n) (hb : b < n) (hn : n ≤ 16) :
    Calls Try.prog 13 #[.pointer (some ⟨p, 0, none⟩), .int .i64 a, .int .i64 b] w (fun e w' => WayIs w w' m n a b e) := by
  have H := Lib.hid hG
  have HA := Lib.hid (isB_true.2 ⟨by omega, by omega⟩ : isB n (a : Int) = true)
  have HB := Lib.hid (isB_true.2 ⟨by omega, by omega⟩ : isB n (b : Int) = true)
  clear hG
  go_enter Try.func13, Try.ntmps13
  go_wp2_with fail
  go_step3
  go_wp2_with fail
  refine (is_graph w p n mb a H.out.obj).mono ?_
  rw [HA.out]
  rintro e w' ⟨rfl, hw⟩
  obtain rfl := hw.symm
  go_wp2_with fail
  refine (is_graph w p n mb b H.out.obj).mono ?_
  rw [HB.out]
  rintro e w' ⟨rfl, hw⟩
  obtain rfl := hw.symm
  go_wp2_with fail
  refine (from_graph w B0 p mb n rb m a H.out ha hn).mono ?_
  rintro e w1 ⟨g, l, B, lev, rfl, hM, hW, hT, hbel⟩
  have hlk := lookup_ok hM (b : Int)
  rw [hW.at_ b] at hlk
  have HM := Lib.hid hM
  have HW := Lib.hid hW
  have HT := Lib.hid hT
  have HBl := Lib.hid hbel
  clear hM hW hT hbel
  cases hB : B b with
  | none =>
    rw [hB] at hlk
    simp only [Option.map_none, Option.getD_none, Option.isSome_none] at hlk
    have HBb := Lib.hid hB
    clear hB
    go_wp2_with fail
    (try rw [Exit.noGoto_ret])
    go_ret
    exact ⟨B, lev, HT.out, HBl.out, .inl ⟨HBb.out, rfl⟩⟩
  | some y =>
    rw [hB] at hlk
    simp only [Option.map_some, Option.getD_some, Option.isSome_some] at hlk
    have HBb := Lib.hid hB
    clear hB
    go_wp2_with fail
    have ho : Owns (w1.alloc (.cells #[Value.int .i64 (b : Int)] 3)) w.heap.size 3 1 (.slice (some ⟨w1.heap.size, 0, none⟩) 1 1) 1 (ints [b]) :=
      (Owns.made w1 3 1 1 #[Value.int .i64 (b : Int)] rfl (by unfold maxLen; omega)).mono HBl.out.size
    have hb2 : Below w.heap.size w (w1.alloc (.cells #[Value.int .i64 (b : Int)] 3)) := HBl.out.alloc HBl.out.size _
    have hm2 := HM.out.alloc (.cells #[Value.int .i64 (b : Int)] 3)
    clear hlk
    generalize w1.alloc (.cells #[Value.int .i64 (b : Int)] 3) = w2 at ho hb2 hm2 ⊢
    generalize Value.slice (some ⟨w1.heap.size, 0, none⟩) 1 1 = v0 at ho ⊢
    go_step3
    go_wp2_with fail
    go_loopg [10] (lev b + 1) (fun gk v wr => ∃ os k x, os.length = k + 1 ∧ os[k]? = some x ∧ os[0]? = some b ∧ (B x).isSome ∧ lev x + k = lev b ∧ (∀ i x y, os[i]? = some x → os[i + 1]? = some y → m y x = true) ∧
      gk = lev x + 1 ∧ MapIs intKeys wr g l ∧ Owns wr w.heap.size 3 1 v (k + 1) (ints os) ∧ Below w.heap.size w wr)
    case atStart => exact ⟨[b], 0, b, rfl, rfl, rfl, by rw [HBb.out]; rfl, rfl, fun i x y hx hy => by simp at hy, rfl, hm2, ho, hb2⟩
    case round =>
      clear ho hb2 hm2
      obtain ⟨os, k, x, hk, hx, h0, hBx, hlx, hst, rfl, hm, ho, hbel⟩ := hrel
      obtain ⟨g2, off, cap, rfl, hlo, hg2, hcap, hcells, hfr⟩ := ho.form (by omega)
      have hc0 : wr.cell? ⟨g2, off + k, none⟩ = some (.int .i64 (x : Int)) := hcells k _ (ints_get hx)
      have HO := Lib.hid ho
      have HMr := Lib.hid hm
      have HBr := Lib.hid hbel
      have HST := Lib.hid (And.intro hk (And.intro hx (And.intro h0 (And.intro hBx (And.intro hlx hst)))))
      have HT2 := HT.out
      have hkb : k ≤ 16 := by
        have := HT2.small b (by rw [HBb.out]; rfl)
        omega
      clear HT2
      obtain ⟨yx, hyx⟩ := Option.isSome_iff_exists.1 hBx
      clear ho hbel hk hx h0 hlx hst hcells hfr hBx
      by_cases hxa : x = a
      · have hxa' : ((x : Int) == (a : Int)) = true := by simp; omega
        have HXA := Lib.hid hxa
        clear hxa hm hyx
        go_wp2_with fail
        refine (reverse_at wr w.heap.size g2 off (k + 1) cap os HST.out.1 HO.out (by omega) (by omega)).mono ?_
        rintro e w3 ⟨rfl, hrv, hgr⟩
        have HRV := Lib.hid hrv
        have HGR := Lib.hid hgr
        clear hrv hgr
        go_wp2_with fail
        (try rw [Exit.noGoto_ret])
        go_ret
        obtain ⟨hk, hx, h0, hBx, hlx, hst⟩ := HST.out
        obtain rfl := HXA.out
        have hl0 := HT.out.lev0
        refine ⟨B, lev, HT.out, HBr.out.grown HGR.out HBr.out.size (fun j hj => by injection hj with hj; omega), .inr ⟨_, os.reverse, by rw [HBb.out]; rfl, rfl, by simp; omega, path_reverse hk hx h0 hst, ?_⟩⟩
        have := HRV.out
        rwa [show os.reverse.length = k + 1 from by simp [hk]]
      · have hxa' : ((x : Int) == (a : Int)) = false := by simp; omega
        obtain ⟨s1, s2, s3⟩ := HT.out.step x yx hyx hxa
        have hlk := lookup_no hm (x : Int)
        rw [HW.out.at_ x, hyx] at hlk
        simp only [Option.map_some, Option.getD_some] at hlk
        have hown4 := HO.out.alloc (.cells #[Value.int .i64 (yx : Int)] 3)
        obtain ⟨i1, hi, hz0, hz1, hz2⟩ := info_parts Try.info3
        have hsrc : Src Try.prog 1 36 (.slice (some ⟨wr.heap.size, 0, none⟩) 1 1) 1 [.int .i64 (yx : Int)] (wr.alloc (.cells #[Value.int .i64 (yx : Int)] 3)) :=
          Src.ofSlice _ Try.underlying36 _ 1 1 _ rfl (World.news_of_block (heap_alloc_new wr _)) (by simp [Value.oneCell'])
        have S1 := Lib.hid (And.intro s1 (And.intro s2 s3))
        have hsz := HBr.out.size
        clear hm hyx hxa s1 s2 s3
        go_wp2_with (at_builtin; refine wpList_append_owns _ rfl _ _ 36 36 rfl w.heap.size 3 i1 (.int .i64 0) 1 8 Try.underlying36 hi hz0 hz1 hz2 rfl (by decide) _ _ _ rfl hown4 _ 1 [.int .i64 (yx : Int)] rfl hsrc (by unfold maxLen; omega) (by omega) (by simp; omega) ?_)
        intro v' w5 hown5 hgr5 hblk5 _
        go_wp2_with fail
        go_roundg (lev yx + 1)
        case measure => obtain ⟨s1, s2, s3⟩ := S1.out; omega
        case rel =>
          obtain ⟨hk, hx, h0, hBx, hlx, hst⟩ := HST.out
          obtain ⟨s1, s2, s3⟩ := S1.out
          have hne : some g ≠ Value.ownBlock (.slice (some ⟨g2, off, none⟩) (k + 1) cap) := fun e => HMr.out.ne_own HO.out e.symm
          refine ⟨os ++ [yx], k + 1, yx, by simp [hk], by rw [List.getElem?_append_right (by omega)]; simp [hk], by rw [List.getElem?_append_left (by omega)]; exact h0, s1, by omega, fun i p q hp hq => ?_, rfl, (HMr.out.alloc _).grown hgr5 hne, ?_,
            (HBr.out.alloc hsz _).grown hgr5 (by simp; omega) (fun j hj => (HO.out.block hj).1)⟩
          · by_cases hik : i + 1 < k + 1
            · rw [List.getElem?_append_left (by omega)] at hp hq
              exact hst i p q hp hq
            · have hik2 : i = k := by
                have := (List.getElem?_eq_some_iff.1 hq).1
                simp at this; omega
              subst hik2
              rw [List.getElem?_append_left (by omega), hx] at hp
              rw [List.getElem?_append_right (by omega), hk, Nat.sub_self] at hq
              injection hp with hp; injection hq with hq
              subst hp; subst hq; exact s2
          · have e2 : ints (os ++ [yx]) = ints os ++ [.int .i64 (yx : Int)] := by simp [ints]
            rw [e2]; exact hown5
end Go.Proofs.Ytlnjnpedcbljcaa
