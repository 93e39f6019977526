/- RouteTells is proved for every input: whoever meets whom, the law answers true, and its arguments read as they did. -/
import Derived.Test.YtlnjnpedcbljcaaTell
import Derived.Test.YtlnjnpedcbljcaaRow
namespace Go.Proofs.Ytlnjnpedcbljcaa
open Go.RowKit Go.WideShapes Go.ChangeShapes Go.ChangeAt

theorem cells3 : Try.prog.cellsOf 3 = 1 := by kernel_rfl
theorem cells41 : Try.prog.cellsOf 41 = 2 := by kernel_rfl
/-- A slice of pairs that came in. -/
theorem pairs_open {H : Type} {enc : TypeId × Value → H} {W : World} {A : Option Addr} {len cap : Nat} {d : DataW H} {ps : List MemPlace}
    (h : DataW.Trod enc Try.prog W 0 (fun _ => true) true 22 (.slice A len cap) d ps) : len ≤ 9223372036854775807 ∧ ∃ b off X Y, Pairs W A b off len X Y := by
  obtain ⟨fuel, hf⟩ := h
  rcases Deep.open_slice Try.underlying22 hf with ⟨hcs, hx⟩ | ⟨a, len', cap', m, n, D, Pl, hcs, _, hl, hmx, hm, hx, hel⟩
  · simp only [Value.cells] at hcs
    injection hcs with hcs
    injection hcs with _ e2 _
    subst e2
    exact ⟨by omega, 0, 0, fun _ => 0, fun _ => 0, ⟨fun i hi => by omega, fun hi => by omega, fun i hi => by omega, fun i hi => by omega⟩⟩
  · simp only [Value.cells] at hcs
    injection hcs with hcs
    injection hcs with e1 e2 e3
    subst e1; subst e2; subst e3
    have hmm : m = cap := by rw [hm]; rfl
    have each : ∀ i, i < len → ∃ q : Int × Int, W.cell? (a.add (i * 2)) = some (.int .i64 q.1) ∧ W.cell? ((a.add (i * 2)).add 1) = some (.int .i64 q.2) := by
      intro i hi
      obtain ⟨cs', h1, h2⟩ := hel i (by omega)
      rw [cells41] at h1
      obtain ⟨_, hlen, hcell⟩ := World.cells?_some h1
      obtain ⟨xs, k, _, _, _, _, he⟩ := DataW.trod_array Try.underlying41 h2
      match cs', hlen with
      | [c0, c1], _ =>
        have t0 := he 0 (by omega)
        have t1 := he 1 (by omega)
        simp only [cells3, Nat.zero_mul, Nat.one_mul, List.drop_zero, List.take_succ_cons, List.take_zero, List.drop_succ_cons] at t0 t1
        cases hx0 : xs[0]? with
        | none => rw [hx0] at t0; have hz := List.getElem?_eq_none_iff.1 hx0; omega
        | some y0 =>
          cases hx1 : xs[1]? with
          | none => have hz := List.getElem?_eq_none_iff.1 hx1; omega
          | some y1 =>
            rw [hx0] at t0
            rw [hx1] at t1
            obtain ⟨n0, e0, _, _⟩ := DataW.trod_int Try.underlying3 t0
            obtain ⟨n1, e1, _, _⟩ := DataW.trod_int Try.underlying3 t1
            injection e0 with e0
            injection e1 with e1
            have g0 := hcell 0 (by omega)
            have g1 := hcell 1 (by omega)
            rw [Deep.add_add, Nat.add_zero] at g0
            exact ⟨(n0, n1), by rw [g0, ← e0]; rfl, by rw [g1, ← e1]; rfl⟩
    obtain ⟨F, hF⟩ := Deep.choose_lt each
    refine ⟨by unfold maxLen at hmx; omega, a.block, a.off, fun i => (F i).1, fun i => (F i).2, ?_⟩
    have hsp : 0 < len → a.spot = none := fun h0 => by
      have := (hF 0 h0).1
      rw [Nat.zero_mul] at this
      have ha0 : a.add 0 = a := by simp [Addr.add]
      rw [ha0] at this
      unfold World.cell? at this
      split at this
      · cases hs : a.spot with
        | none => rfl
        | some s => rw [hs] at this; simp at this
      · cases this
    have hadd : ∀ i, 0 < len → a.add i = ⟨a.block, a.off + i, none⟩ := fun i h0 => by
      have := hsp h0
      cases a with | mk ab ao az =>
      simp only at this
      subst this
      unfold Addr.add
      by_cases hi : i = 0
      · subst hi; simp
      · rw [if_neg hi]
    have haa : 0 < len → a = ⟨a.block, a.off, none⟩ := fun h0 => by
      have := hsp h0
      cases a with | mk ab ao az =>
      simp only at this
      subst this; rfl
    refine ⟨fun i hi => by rw [← haa (by omega)], fun h0 => ?_, fun i hi => ?_, fun i hi => ?_⟩
    · have := (hF 0 h0).1
      rw [hadd _ h0] at this
      exact World.block_lt_of_cell? W ⟨a.block, a.off + 0 * 2, none⟩ this
    · have := (hF i hi).1
      rwa [hadd _ (by omega)] at this
    · have := (hF i hi).2
      rw [Deep.add_add, hadd _ (by omega)] at this
      rw [Nat.add_assoc]; exact this

set_option maxRecDepth 100000 in
theorem lifted (os : Os) (started : os.Started) (H : Type) (enc : TypeId × Value → H) :
    ReturnsInHanded {} Try.checked os 3 .any (Rows.routeTellsSpec.pre6 enc Try.prog Try.f3 Rows.routeTellsRow.domain false) (Rows.routeTellsSpec.post enc Try.prog Try.f3 false true false false) := by
  refine returnsInHanded_of_change (C := Try.checked) own started (by kernel_rfl) Try.func3
    (ChangeSpec.witness6 (enc := enc) (C := Try.checked) false ⟨#[], #[.int .i64 0, .slice none 0 0], []⟩ 8 (by kernel_rfl) (by kernel_rfl) (by kernel_rfl) (by kernel_rfl)) ?_
  intro W base args ds gs before hval0 hW _ _
  have hval : ∀ (j : Nat) t v, Try.f3.params[j]? = some t → args[j]? = some v → Value.okWide Try.prog W .any base t v := hval0
  have hW' := hW
  obtain ⟨p, q, hA0, hV, rfl, hfz, hnd⟩ := hW
  have hA : DataW.TrodAll enc Try.prog W 0 (fun _ => true) true Try.f3.params.toList args.toList ds p := hA0
  rw [Try.params3] at hA hval
  obtain ⟨v0, v1, d0, d1, p0, p1, rfl, rfl, rfl, h0, h1⟩ := trodAll_two hA
  obtain ⟨rfl, rfl⟩ := trodVars_none hV
  obtain ⟨n, rfl, rfl, rfl, wn⟩ := open_int Try.underlying3 (hval 0 3 v0 rfl rfl) h0
  obtain ⟨A, len, cap, rfl⟩ := okWide_slice Try.underlying22 (hval 1 22 v1 rfl rfl)
  obtain ⟨hlen, b, off, X, Y, hP⟩ := pairs_open h1
  clear hA0 hval0
  have hcall : Calls Try.prog 3 #[.int .i64 n, .slice A len cap] W fun e w' => e = .returned (.bool true) ∧ Below W.heap.size W w' := by
    by_cases hn : n < 0 ∨ 16 < n
    · exact tells_bad n _ W hn
    · obtain ⟨k, rfl⟩ := Int.eq_ofNat_of_zero_le (show 0 ≤ n by omega)
      exact tells_ok k (by omega) A b off len cap X Y W hP hlen
  refine hcall.mono fun e W' ⟨he, hb⟩ => ?_
  subst he
  exact ⟨_, rfl, law_post hW' rfl rfl rfl Try.underlying4 laidOut (by intro t ht; rw [Try.params3] at ht; simp at ht; rcases ht with rfl | rfl <;> exact ⟨by kernel_rfl, of_decide_eq_true (by kernel_rfl)⟩) hb⟩

theorem proved : Rows.RouteTellsSaid :=
  OpenClaim.holds_of_wide 3 Try.f3 rfl rfl rfl rfl rfl rfl rfl ⟨rfl, rfl, rfl, rfl, rfl⟩ rfl rfl rfl rfl rfl (by kernel_rfl) Try.func3 (by kernel_rfl)
    (of_decide_eq_true (by kernel_rfl)) (by unfold Func.isWrapper; first | (rw [if_pos (by decide +kernel)]; kernel_rfl) | (rw [if_neg (by decide +kernel)]; exact ⟨rfl, rfl⟩))
    (fun os started H enc _ => lifted os started H enc)
#print axioms proved
end Go.Proofs.Ytlnjnpedcbljcaa
