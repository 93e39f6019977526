/- Parts, Links. -/
import Derived.Test.YtlnjnpedcbljcaaFar
namespace Go.Proofs.Ytlnjnpedcbljcaa
open Go.RowKit RoutePlain

theorem made_list (z : Value) (n : Nat) : (madeCells #[z] n).toList = List.replicate n z := by
  apply List.ext_getElem?
  intro i
  by_cases h : i < n
  · simp [madeCells, h, Nat.mod_one]
  · rw [List.getElem?_eq_none (by simp [madeCells]; omega), List.getElem?_eq_none (by simp; omega)]

/-- The least one that it can be reached from. -/
def Least (m : Nat → Nat → Bool) (n b p : Nat) : Prop := p ≤ b ∧ 0 ≤ far m n p b ∧ ∀ a, a < p → far m n a b < 0
def AllLeast (m : Nat → Nat → Bool) (n : Nat) (ps : List Nat) : Prop := ps.length = n ∧ ∀ i p, ps[i]? = some p → Least m n i p

/-- The first b are done; the next one stands at c; others at 0. -/
structure Some (m : Nat → Nat → Bool) (n b c : Nat) (ps : List Nat) : Prop where
  len : ps.length = n
  done : ∀ i p, i < b → ps[i]? = some p → Least m n i p
  here : b < n → ps[b]? = some c
  rest : ∀ i, b < i → i < n → ps[i]? = some 0
  not_ : ∀ a, a < c → far m n a b < 0
  le : c ≤ b
theorem Some.start (m : Nat → Nat → Bool) (n : Nat) : Some m n 0 0 (List.replicate n 0) :=
  ⟨by simp, fun i p h => by omega, fun h => by simp [h], fun i _ h => by simp [h], fun a h => by omega, Nat.le_refl _⟩
theorem Some.more {m : Nat → Nat → Bool} {n b c : Nat} {ps : List Nat} (h : Some m n b c ps) (hb : b < n) (hf : far m n c b < 0) : Some m n b (c + 1) (ps.set b (c + 1)) := by
  have hl := h.len
  have hcb : c ≠ b := by rintro rfl; rw [far_self] at hf; omega
  refine ⟨by simp [hl], fun i p hi hp => ?_, fun _ => by simp [hl, hb], fun i hi hn => ?_, fun a ha => ?_, by have := h.le; omega⟩
  · rw [List.getElem?_set, if_neg (by omega)] at hp; exact h.done i p hi hp
  · rw [List.getElem?_set, if_neg (by omega)]; exact h.rest i hi hn
  · by_cases e : a = c
    · subst e; exact hf
    · exact h.not_ a (by omega)
theorem Some.next {m : Nat → Nat → Bool} {n b c : Nat} {ps : List Nat} (h : Some m n b c ps) (hb : b < n) (hf : 0 ≤ far m n c b) : Some m n (b + 1) 0 ps := by
  refine ⟨h.len, fun i p hi hp => ?_, fun hn => h.rest _ (by omega) hn, fun i hi hn => h.rest i (by omega) hn, fun a ha => by omega, Nat.zero_le _⟩
  by_cases e : i = b
  · subst e
    rw [h.here hb] at hp
    injection hp with hp
    subst hp
    exact ⟨h.le, hf, h.not_⟩
  · exact h.done i p (by omega) hp
theorem Some.all {m : Nat → Nat → Bool} {n c : Nat} {ps : List Nat} (h : Some m n n c ps) : AllLeast m n ps :=
  ⟨h.len, fun i p hp => h.done i p (by have := (List.getElem?_eq_some_iff.1 hp).1; have := h.len; omega) hp⟩

set_option maxHeartbeats 1000000 in
theorem parts_graph (w : World) (B0 p mb n : Nat) (rb : Nat → Nat) (m : Nat → Nat → Bool) (hG : Graph w B0 p mb rb n m) (hn : n ≤ 16) :
    Calls Try.prog 9 #[.pointer (some ⟨p, 0, none⟩)] w fun e w' => ∃ g ps, e = .returned (.slice (some ⟨g, 0, none⟩) n n) ∧ AllLeast m n ps ∧ Owns w' w.heap.size 3 1 (.slice (some ⟨g, 0, none⟩) n n) n (ints ps) ∧ Below w.heap.size w w' := by
  have hmk := run_make_row' (P := Try.prog) 36 3 (.int .i64 0) 8 Try.underlying36 Try.info3 rfl .i64 .i64 n (by omega) (by omega)
  have H := Lib.hid hG
  clear hG
  go_enter Try.func9, Try.ntmps9
  go_wp2_with fail
  refine (len_graph w p n mb H.out.obj).mono ?_
  rintro e w' ⟨rfl, hw⟩
  obtain rfl := hw.symm
  go_wp2_with fail
  have ho0 : Owns (w.alloc (.cells (madeCells #[.int .i64 0] n) 3)) w.heap.size 3 1 (.slice (some ⟨w.heap.size, 0, none⟩) n n) n (ints (List.replicate n 0)) := by
    have := Owns.made w 3 1 n (madeCells #[.int .i64 0] n) (by simp [madeCells]) (by unfold maxLen; omega)
    rw [made_list] at this
    simpa [ints] using this
  have hb0 : Below w.heap.size w (w.alloc (.cells (madeCells #[.int .i64 0] n) 3)) := (Below.refl _ _).alloc (Nat.le_refl _) _
  clear hmk
  generalize w.alloc (.cells (madeCells #[.int .i64 0] n) 3) = w2 at ho0 hb0 ⊢
  obtain ⟨g, hgg⟩ : ∃ g, w.heap.size = g := ⟨_, rfl⟩
  have HGG := Lib.hid hgg
  simp only [hgg] at ho0 ⊢
  clear hgg
  go_loopg [10] n (fun gk i wr => ∃ b ps, b ≤ n ∧ gk = n - b ∧ i = .int .i64 (b : Int) ∧ Some m n b 0 ps ∧ Owns wr g 3 1 (.slice (some ⟨g, 0, none⟩) n n) n (ints ps) ∧ Below g w wr)
  case atStart => exact ⟨0, _, Nat.zero_le _, rfl, rfl, Some.start m n, ho0, by rw [← HGG.out]; exact hb0⟩
  case round =>
    clear ho0 hb0
    obtain ⟨b, ps, hbn, rfl, rfl, hS, ho, hb⟩ := hrel
    have HS := Lib.hid hS
    have HO := Lib.hid ho
    have HB := Lib.hid hb
    clear hS ho hb
    by_cases hlt : b < n
    · have hlt' : (b : Int) < (n : Int) := by omega
      go_wp2_with fail
      obtain ⟨wo, rfl⟩ : ∃ wo : World, wo = wr := ⟨_, rfl⟩
      go_loopg [] (b + 1) (fun gi wi => ∃ c ps, gi = b + 1 - c ∧ Some m n b c ps ∧ Owns wi g 3 1 (.slice (some ⟨g, 0, none⟩) n n) n (ints ps) ∧ Below g w wi)
      case atStart => exact ⟨0, ps, rfl, HS.out, HO.out, HB.out⟩
      case round =>
        obtain ⟨c, qs, rfl, hS, ho, hb⟩ := hrel
        obtain ⟨g', off', cap', hv', hlo', hlt2, hcap, hcells, hfr⟩ := ho.form (by omega)
        injection hv' with e1 e2 e3
        injection e1 with e1
        injection e1 with e1 e4 _
        subst e1; subst e4; subst e3
        have hc0 : wr.cell? ⟨g, b, none⟩ = some (.int .i64 (c : Int)) := by have := hcells b _ (ints_get (hS.here hlt)); simpa using this
        have hf0 := hfr b
        have hcb := hS.le
        have hcn : c < n := by omega
        have hfl := far_lo m n c b
        have HS2 := Lib.hid hS
        have HO2 := Lib.hid ho
        have HB2 := Lib.hid hb
        have hlt3 := Lib.hid hlt2
        clear hS ho hb hcells hfr hlt2 hlo'
        have HGr := Lib.hid (H.out.below (w' := wr) (by have := HB2.out; rw [← HGG.out] at this; exact this))
        go_wp2_with fail
        refine (far_in wr B0 p mb n rb m c b HGr.out hcn hlt hn).mono ?_
        rintro e w4 ⟨rfl, hb4⟩
        have hc4 : w4.cell? ⟨g, b, none⟩ = some (.int .i64 (c : Int)) := (hb4.cell (p := ⟨g, b, none⟩) hlt3.out).trans hc0
        have hf4 : w4.frozen? ⟨g, b, none⟩ = false := (hb4.frozen (p := ⟨g, b, none⟩) hlt3.out).trans hf0
        have HO4 := Lib.hid (HO2.out.of_block (w' := w4) (fun k hk => hb4.block k (by injection hk with hk; rw [← hk]; exact hlt3.out)))
        have HB4 := Lib.hid (HB2.out.trans (hb4.mono (Nat.le_trans (Nat.le_of_lt hlt3.out) (Nat.le_refl _))))
        clear hb4 hc0 hf0
        by_cases hneg : far m n c b < 0
        · have HN := Lib.hid (HS2.out.more hlt hneg)
          generalize far m n c b = fv at *
          go_wp2_with fail
          go_roundg (b + 1 - (c + 1))
          case measure => omega
          case rel =>
            refine ⟨c + 1, qs.set b (c + 1), rfl, HN.out, ?_, HB4.out.setCell (p := ⟨g, b, none⟩) (Nat.le_refl _) _⟩
            have h5 := HO4.out.set rfl b (.int .i64 ((c + 1 : Nat) : Int))
            rw [ints_set, Nat.zero_add] at h5
            exact h5
        · have HN := Lib.hid (HS2.out.next hlt (by omega))
          generalize far m n c b = fv at *
          go_wp2_with fail
          go_roundg (n - (b + 1))
          case measure => omega
          case rel => exact ⟨b + 1, qs, by omega, rfl, by go_num, HN.out, HO4.out, HB4.out⟩
    · obtain rfl : b = n := by omega
      go_wp2_with fail
      go_ret
      exact ⟨g, ps, rfl, HS.out.all, by rw [HGG.out]; exact HO.out, by rw [HGG.out]; exact HB.out⟩
end Go.Proofs.Ytlnjnpedcbljcaa
