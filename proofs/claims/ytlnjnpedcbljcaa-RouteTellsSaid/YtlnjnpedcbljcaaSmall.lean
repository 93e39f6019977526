/- The graph's small methods. -/
import Derived.Test.YtlnjnpedcbljcaaNew
namespace Go.Proofs.Ytlnjnpedcbljcaa
open Go.RowKit

theorem none_graph (w : World) (p n mb : Nat) (ho : Blk w p 47 #[.bool true, .slice (some ⟨mb, 0, none⟩) n n]) :
    Calls Try.prog 17 #[.pointer (some ⟨p, 0, none⟩)] w fun e w' => e = .returned (.bool false) ∧ w' = w := by
  have h0 : w.cell? ⟨p, 0, none⟩ = some (.bool true) := by rw [ho.cell]; rfl
  clear ho
  go_enter Try.func17, Try.ntmps17
  go_wp2
  go_ret
  exact ⟨rfl, rfl⟩
theorem len_graph (w : World) (p n mb : Nat) (ho : Blk w p 47 #[.bool true, .slice (some ⟨mb, 0, none⟩) n n]) :
    Calls Try.prog 8 #[.pointer (some ⟨p, 0, none⟩)] w fun e w' => e = .returned (.int .i64 n) ∧ w' = w := by
  have h1 : w.cell? ⟨p, 1, none⟩ = some (.slice (some ⟨mb, 0, none⟩) n n) := by rw [ho.cell]; rfl
  have H := Lib.hid ho
  clear ho
  go_enter Try.func8, Try.ntmps8
  go_wp2_with fail
  refine (none_graph w p n mb H.out).mono ?_
  rintro e w' ⟨rfl, rfl⟩
  go_wp2
  go_ret
  exact ⟨rfl, rfl⟩

def isB (n : Nat) (a : Int) : Bool := decide (0 ≤ a) && decide (a < n)
theorem isB_true {n : Nat} {a : Int} : isB n a = true ↔ 0 ≤ a ∧ a < n := by simp [isB]
theorem is_graph (w : World) (p n mb : Nat) (a : Int) (ho : Blk w p 47 #[.bool true, .slice (some ⟨mb, 0, none⟩) n n]) :
    Calls Try.prog 18 #[.pointer (some ⟨p, 0, none⟩), .int .i64 a] w fun e w' => e = .returned (.bool (isB n a)) ∧ w' = w := by
  have H := Lib.hid ho
  clear ho
  by_cases h0 : 0 ≤ a
  · go_enter Try.func18, Try.ntmps18
    go_wp2_with fail
    refine (len_graph w p n mb H.out).mono ?_
    rintro e w' ⟨rfl, rfl⟩
    go_wp2
    go_ret
    exact ⟨by simp [isB, h0], rfl⟩
  · go_enter Try.func18, Try.ntmps18
    go_wp2
    go_ret
    exact ⟨by simp [isB]; omega, rfl⟩

theorem linked_no (w : World) (p n mb : Nat) (a b : Int) (ho : Blk w p 47 #[.bool true, .slice (some ⟨mb, 0, none⟩) n n]) (h : isB n a = false ∨ isB n b = false) :
    Calls Try.prog 12 #[.pointer (some ⟨p, 0, none⟩), .int .i64 a, .int .i64 b] w fun e w' => e = .returned (.bool false) ∧ w' = w := by
  have H := Lib.hid ho
  clear ho
  cases ha : isB n a
  · have HA := Lib.hid ha
    clear ha h
    go_enter Try.func12, Try.ntmps12
    go_wp2_with fail
    refine (is_graph w p n mb a H.out).mono ?_
    rw [HA.out]
    rintro e w' ⟨rfl, rfl⟩
    go_wp2
    go_ret
    exact ⟨rfl, rfl⟩
  · have hb : isB n b = false := by
      rcases h with h | h
      · rw [ha] at h; cases h
      · exact h
    have HA := Lib.hid ha
    have HB := Lib.hid hb
    clear ha h hb
    go_enter Try.func12, Try.ntmps12
    go_wp2_with fail
    refine (is_graph w p n mb a H.out).mono ?_
    rw [HA.out]
    rintro e w' ⟨rfl, rfl⟩
    go_wp2_with fail
    refine (is_graph w' p n mb b H.out).mono ?_
    rw [HB.out]
    rintro e w' ⟨rfl, rfl⟩
    go_wp2
    go_ret
    exact ⟨rfl, rfl⟩
theorem linked_yes (w : World) (B p mb n : Nat) (rb : Nat → Nat) (m : Nat → Nat → Bool) (a b : Nat) (hG : Graph w B p mb rb n m) (ha : a < n) (hb : b < n) :
    Calls Try.prog 12 #[.pointer (some ⟨p, 0, none⟩), .int .i64 a, .int .i64 b] w fun e w' => e = .returned (.bool (m a b)) ∧ w' = w := by
  have h1 : w.cell? ⟨p, 1, none⟩ = some (.slice (some ⟨mb, 0, none⟩) n n) := by rw [hG.obj.cell]; rfl
  have h2 := hG.rows.cell ha
  have h3 := (hG.each a ha).cell hb
  have HA := Lib.hid (isB_true.2 ⟨by omega, by omega⟩ : isB n (a : Int) = true)
  have HB := Lib.hid (isB_true.2 ⟨by omega, by omega⟩ : isB n (b : Int) = true)
  have H := Lib.hid hG.obj
  have ha' : (a : Int) < (n : Int) := by omega
  have hb' : (b : Int) < (n : Int) := by omega
  clear hG
  go_enter Try.func12, Try.ntmps12
  go_wp2_with fail
  refine (is_graph w p n mb a H.out).mono ?_
  rw [HA.out]
  rintro e w' ⟨rfl, rfl⟩
  go_wp2_with fail
  refine (is_graph w' p n mb b H.out).mono ?_
  rw [HB.out]
  rintro e w' ⟨rfl, rfl⟩
  go_wp2
  go_ret
  exact ⟨rfl, rfl⟩
theorem link_no (w : World) (p n mb : Nat) (a b : Int) (ho : Blk w p 47 #[.bool true, .slice (some ⟨mb, 0, none⟩) n n]) (h : isB n a = false ∨ isB n b = false ∨ a = b) :
    Calls Try.prog 14 #[.pointer (some ⟨p, 0, none⟩), .int .i64 a, .int .i64 b] w fun e w' => e = .returned (.int .i64 2) ∧ w' = w := by
  have H := Lib.hid ho
  clear ho
  cases ha : isB n a
  · have HA := Lib.hid ha
    clear ha h
    go_enter Try.func14, Try.ntmps14
    go_wp2_with fail
    refine (none_graph w p n mb H.out).mono ?_
    rintro e w' ⟨rfl, rfl⟩
    go_wp2_with fail
    refine (is_graph w' p n mb a H.out).mono ?_
    rw [HA.out]
    rintro e w' ⟨rfl, rfl⟩
    go_wp2
    go_ret
    exact ⟨rfl, rfl⟩
  · cases hb : isB n b
    · have HA := Lib.hid ha
      have HB := Lib.hid hb
      clear ha h hb
      go_enter Try.func14, Try.ntmps14
      go_wp2_with fail
      refine (none_graph w p n mb H.out).mono ?_
      rintro e w' ⟨rfl, rfl⟩
      go_wp2_with fail
      refine (is_graph w' p n mb a H.out).mono ?_
      rw [HA.out]
      rintro e w' ⟨rfl, rfl⟩
      go_wp2_with fail
      refine (is_graph w' p n mb b H.out).mono ?_
      rw [HB.out]
      rintro e w' ⟨rfl, rfl⟩
      go_wp2
      go_ret
      exact ⟨rfl, rfl⟩
    · obtain rfl : a = b := by
        rcases h with h | h | h
        · rw [ha] at h; cases h
        · rw [hb] at h; cases h
        · exact h
      have HA := Lib.hid ha
      clear ha h hb
      go_enter Try.func14, Try.ntmps14
      go_wp2_with fail
      refine (none_graph w p n mb H.out).mono ?_
      rintro e w' ⟨rfl, rfl⟩
      go_wp2_with fail
      refine (is_graph w' p n mb a H.out).mono ?_
      rw [HA.out]
      rintro e w' ⟨rfl, rfl⟩
      go_wp2_with fail
      refine (is_graph w' p n mb a H.out).mono ?_
      rw [HA.out]
      rintro e w' ⟨rfl, rfl⟩
      go_wp2
      go_ret
      exact ⟨rfl, rfl⟩

/-- One more meeting. -/
def meet (m : Nat → Nat → Bool) (a b : Nat) : Nat → Nat → Bool := fun i k => if i = b ∧ k = a then true else if i = a ∧ k = b then true else m i k
theorem Graph.store {w : World} {B p mb n : Nat} {rb : Nat → Nat} {m : Nat → Nat → Bool} (hG : Graph w B p mb rb n m) {a b : Nat} (ha : a < n) (v : Bool) :
    Graph (w.setCell ⟨rb a, b, none⟩ (.bool v)) B p mb rb n (fun i k => if i = a ∧ k = b then v else m i k) := by
  have e1 : p ≠ rb a := by
    obtain ⟨c, hc, _⟩ := row_blk (hG.each a ha)
    exact Blk.ne_ hG.obj hc (by decide)
  have e2 : mb ≠ rb a := row_ne hG.rows (hG.each a ha) (by decide)
  refine ⟨hG.obj.far e1 _, hG.rows.setOther e2 _, fun i hi => ?_, hG.inj, hG.lo⟩
  by_cases e : i = a
  · subst e
    exact ((hG.each i hi).set b _).congr fun k _ => by
      by_cases hk : k = b <;> simp [hk]
  · exact ((hG.each i hi).setOther (fun h => e (hG.inj i a hi ha h)) _).congr fun k _ => by simp [e]
theorem Graph.drew {w : World} {B p mb n : Nat} {rb : Nat → Nat} {m : Nat → Nat → Bool} (hG : Graph w B p mb rb n m) : Graph w.drew B p mb rb n m := ⟨hG.obj, hG.rows, hG.each, hG.inj, hG.lo⟩
theorem Graph.congr {w : World} {B p mb n : Nat} {rb : Nat → Nat} {m m' : Nat → Nat → Bool} (hG : Graph w B p mb rb n m) (h : ∀ i k, i < n → k < n → m i k = m' i k) : Graph w B p mb rb n m' :=
  ⟨hG.obj, hG.rows, fun i hi => (hG.each i hi).congr fun k hk => by rw [h i k hi hk], hG.inj, hG.lo⟩
theorem Graph.keep {w w' : World} {F : Nat → Prop} {B p mb n : Nat} {rb : Nat → Nat} {m : Nat → Nat → Bool} (hG : Graph w B p mb rb n m) (hk : Keep F w w') (hp : ¬ F p) (hm : ¬ F mb) (hr : ∀ i, i < n → ¬ F (rb i)) : Graph w' B p mb rb n m :=
  ⟨hk.blk hG.obj hp, hk.row hG.rows hm, fun i hi => hk.row (hG.each i hi) (hr i hi), hG.inj, hG.lo⟩

theorem link_yes (w : World) (B p mb n : Nat) (rb : Nat → Nat) (m : Nat → Nat → Bool) (a b : Nat) (hG : Graph w B p mb rb n m) (ha : a < n) (hb : b < n) (hne : a ≠ b) :
    Calls Try.prog 14 #[.pointer (some ⟨p, 0, none⟩), .int .i64 a, .int .i64 b] w fun e w' => e = .returned (.int .i64 0) ∧ Graph w' B p mb rb n (meet m a b) ∧ Keep (fun k => ∃ i, i < n ∧ k = rb i) w w' := by
  have hk : Keep (fun k => ∃ i, i < n ∧ k = rb i) w (((w.setCell ⟨rb a, b, none⟩ (.bool true)).setCell ⟨rb b, a, none⟩ (.bool true)).drewN 1) :=
    (((Keep.refl _ w).setCell (p := ⟨rb a, b, none⟩) (.inl ⟨a, ha, rfl⟩) _).setCell (p := ⟨rb b, a, none⟩) (.inl ⟨b, hb, rfl⟩) _).drewN 1
  have hg : Graph (((w.setCell ⟨rb a, b, none⟩ (.bool true)).setCell ⟨rb b, a, none⟩ (.bool true)).drewN 1) B p mb rb n (meet m a b) := (((hG.store (b := b) ha true).store (b := a) hb true).congr fun i k _ _ => rfl).drew
  have h1 : w.cell? ⟨p, 1, none⟩ = some (.slice (some ⟨mb, 0, none⟩) n n) := by rw [hG.obj.cell]; rfl
  have h2 := hG.rows.cell ha
  have h3 := (hG.each a ha).cell hb
  have h4 := hG.rows.cell hb
  have h5 := (hG.each b hb).cell ha
  have f3 := (hG.each a ha).frozen b
  have f5 := (hG.each b hb).frozen a
  have hab : rb a ≠ rb b := fun h => hne (hG.inj a b ha hb h)
  have HA := Lib.hid (isB_true.2 ⟨by omega, by omega⟩ : isB n (a : Int) = true)
  have HB := Lib.hid (isB_true.2 ⟨by omega, by omega⟩ : isB n (b : Int) = true)
  have H := Lib.hid hG.obj
  have HK := Lib.hid hk
  have HG := Lib.hid hg
  have ha' : (a : Int) < (n : Int) := by omega
  have hb' : (b : Int) < (n : Int) := by omega
  have hab' : ((a : Int) == (b : Int)) = false := by simp; omega
  clear hG hk hg
  go_enter Try.func14, Try.ntmps14
  go_wp2_with fail
  refine (none_graph w p n mb H.out).mono ?_
  rintro e w' ⟨rfl, rfl⟩
  go_wp2_with fail
  refine (is_graph w' p n mb a H.out).mono ?_
  rw [HA.out]
  rintro e w'' ⟨rfl, rfl⟩
  go_wp2_with fail
  refine (is_graph w'' p n mb b H.out).mono ?_
  rw [HB.out]
  rintro e w' ⟨rfl, rfl⟩
  go_wp2_with fail
  go_region
  go_wp2
  go_ret
  exact ⟨rfl, HG.out, HK.out⟩
end Go.Proofs.Ytlnjnpedcbljcaa
