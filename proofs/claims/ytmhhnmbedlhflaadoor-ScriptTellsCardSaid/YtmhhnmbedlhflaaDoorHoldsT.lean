/- ScriptTells' card is proved. -/
import Derived.Test.YtmhhnmbedlhflaaDoorLines
import Derived.Test.YtmhhnmbedlhflaaDoorHoldsB
namespace Go.Proofs.YtmhhnmbedlhflaaDoor.tells
open Go.RowKit Go.WideShapes Go.ChangeShapes Go.ChangeAt
open Go.ChangeMaps (open_string shut_string)
set_option maxRecDepth 100000

theorem cells3 : Tryd.prog.cellsOf 3 = 1 := by kernel_rfl
theorem cells5 : Tryd.prog.cellsOf 5 = 1 := by kernel_rfl
theorem cells33 : Tryd.prog.cellsOf 33 = 1 := by kernel_rfl
theorem cells40 : Tryd.prog.cellsOf 40 = 32 := by kernel_rfl
theorem cells42 : Tryd.prog.cellsOf 42 = 35 := by kernel_rfl
theorem bytes_of : ∀ (cs : List Value), (∀ i, i < cs.length → ∃ x : Int, (cs.drop i).take 1 = [.int .u8 x] ∧ 0 ≤ x ∧ x ≤ 255) → ∃ d : Bs, cs = bcells d ∧ d.length = cs.length
  | [], _ => ⟨[], rfl, rfl⟩
  | c :: cs, h => by
    obtain ⟨x, h1, h2, h3⟩ := h 0 (by simp)
    obtain ⟨d, h4, h5⟩ := bytes_of cs (fun i hi => by
      have := h (i + 1) (by simpa using hi)
      simpa using this)
    simp only [List.drop_zero, List.take_succ_cons, List.take_zero, List.cons.injEq, and_true] at h1
    refine ⟨UInt8.ofNat x.toNat :: d, ?_, by simp [h5]⟩
    rw [h1]
    conv => lhs; rw [h4]
    simp only [bcells, List.map_cons]
    congr 2
    simp
    omega
theorem parts35 (l : List Value) (h : l.length = 35) : l = (l.drop 0).take 1 ++ ((l.drop 1).take 1 ++ ((l.drop 2).take 32 ++ (l.drop 34).take 1)) := by
  have h3 : (l.drop 34).take 1 = (l.drop 2).drop 32 := by rw [List.drop_drop, List.take_of_length_le (by simp [h])]
  have h2 : l.drop 2 = (l.drop 1).drop 1 := by rw [List.drop_drop]
  rw [h3, List.take_append_drop, h2, List.take_append_drop, List.drop_zero, List.take_append_drop]
/-- A Told that came in. -/
theorem told_open {H : Type} {enc : TypeId × Value → H} {W : World} {cs : Array Value} {d : DataW H} {ps : List MemPlace}
    (h : DataW.Trod enc Tryd.prog W 0 (fun _ => true) true 42 (.agg cs) d ps) : ∃ code n i files, cs = tCellsI code n i files ∧ i.length = 32 := by
  obtain ⟨fuel, hf⟩ := h
  have hf : DataW.trod enc Tryd.prog W 0 (fun _ => true) true fuel 42 cs.toList = some (d, ps) := hf
  obtain ⟨xs, m, _, _, hl, hlen, he⟩ := DataW.trod_struct Tryd.underlying42 hf
  rw [cells42] at hl
  have hx4 : xs.length = 4 := by simpa using hlen
  have e0 := he 0 { name := "Code", type := 33, offset := 0, embedded := false, tag := "", pkgPath := "", byteOffset := 0 } rfl
  have e1 := he 1 { name := "N", type := 3, offset := 1, embedded := false, tag := "", pkgPath := "", byteOffset := 8 } rfl
  have e2 := he 2 { name := "Id", type := 40, offset := 2, embedded := false, tag := "", pkgPath := "", byteOffset := 16 } rfl
  have e3 := he 3 { name := "Files", type := 3, offset := 34, embedded := false, tag := "", pkgPath := "", byteOffset := 48 } rfl
  simp only [cells3, cells33, cells40] at e0 e1 e2 e3
  match xs, hx4 with
  | [y0, y1, y2, y3], _ =>
    obtain ⟨code, c0, _, _⟩ := DataW.trod_int Tryd.underlying33 e0
    obtain ⟨n, c1, _, _⟩ := DataW.trod_int Tryd.underlying3 e1
    obtain ⟨fl, c3, _, _⟩ := DataW.trod_int Tryd.underlying3 e3
    obtain ⟨ys, k, _, _, hl2, hy, h2⟩ := DataW.trod_array Tryd.underlying40 e2
    rw [cells40] at hl2
    obtain ⟨i, hi, hil⟩ := bytes_of ((cs.toList.drop 2).take 32) (fun j hj => by
      rw [hl2] at hj
      have t := h2 j hj
      simp only [cells5, Nat.mul_one] at t
      cases hyj : ys[j]? with
      | none => have hz := List.getElem?_eq_none_iff.1 hyj; omega
      | some y =>
        rw [hyj] at t
        obtain ⟨x, hx, _, hw⟩ := DataW.trod_int Tryd.underlying5 t
        refine ⟨x, hx, ?_⟩
        simpa [Lit.wf, IntKind.min, IntKind.max, IntKind.signed, IntKind.bits] using hw)
    refine ⟨code, n, i, fl, ?_, by rw [hil, hl2]⟩
    have hcs : cs.toList = .int .i64 code :: .int .i64 n :: (bcells i ++ [.int .i64 fl]) := by
      rw [← hi]
      have a0 := parts35 cs.toList hl
      rw [c0, c1, c3] at a0
      simpa using a0
    unfold tCellsI
    rw [← hcs]

theorem contract (H : Type) (enc : TypeId × Value → H) (W : World) (base : Nat) (args : Array Value) (ds gs : List (DataW H)) (before : List MemPlace)
    (hval : ∀ (j : Nat) t v, Tryd.f5.params[j]? = some t → args[j]? = some v → Value.okWide Tryd.prog W .any base t v)
    (hW : DataW.Whole enc Tryd.prog Tryd.f5.params.toList Rows.scriptTellsSpec.vars false W args.toList ds gs before) (hsh : W.ShapedOpen Tryd.prog) :
    Calls Tryd.prog 5 args W fun e W' => ∃ v, e = .returned v ∧ Rows.scriptTellsSpec.post enc Tryd.prog Tryd.f5 false true false false W args v W' := by
  have hW' := hW
  obtain ⟨m, hm⟩ := max_cell hsh
  obtain ⟨p, q, hA0, hV, rfl, hfz, hnd⟩ := hW
  have hA : DataW.TrodAll enc Tryd.prog W 0 (fun _ => true) true Tryd.f5.params.toList args.toList ds p := hA0
  rw [Tryd.params5] at hA hval
  obtain ⟨v0, d0, rfl, rfl, h0⟩ := trodAll_one hA
  obtain ⟨rfl, rfl⟩ := trodVars_none hV
  obtain ⟨cs, rfl, _⟩ := okWide_struct Tryd.underlying42 (hval 0 42 v0 rfl rfl)
  obtain ⟨code, n, i, files, rfl, hi⟩ := told_open h0
  clear hA0
  have hcall := tells_run code n i files hi m W hm
  refine hcall.mono fun e W' ⟨he, hb⟩ => ?_
  subst he
  exact ⟨_, rfl, law_post hW' rfl rfl rfl Tryd.underlying4 laidOut (by intro t ht; rw [Tryd.params5] at ht; simp at ht; rcases ht with rfl; exact ⟨by kernel_rfl, of_decide_eq_true (by kernel_rfl)⟩) hb⟩

theorem lifted (os : Os) (started : os.Started) (H : Type) (enc : TypeId × Value → H) (F : Stop.Interp) :
    ReturnsInHanded {} Tryd.checked os 5 .any ((OpenSpec.ofChange Rows.scriptTellsSpec).preRow enc Tryd.prog Tryd.f5 Rows.scriptTellsRow.domain false Rows.scriptTellsRow.laid) (((OpenSpec.ofChange Rows.scriptTellsSpec).at F).post enc Tryd.prog Tryd.f5 false true false false) := by
  refine returnsInHanded_of_row (C := Tryd.checked) (s := OpenSpec.ofChange Rows.scriptTellsSpec) own started (by kernel_rfl) Tryd.func5
    (witness_row_at (enc := enc) (C := Tryd.checked) false (World.laidAll Tryd.prog os Rows.scriptTellsRow.laid) #[.agg #[.int .i64 0, .int .i64 0, .int .u8 0, .int .u8 0, .int .u8 0, .int .u8 0, .int .u8 0, .int .u8 0, .int .u8 0, .int .u8 0, .int .u8 0, .int .u8 0, .int .u8 0, .int .u8 0, .int .u8 0, .int .u8 0, .int .u8 0, .int .u8 0, .int .u8 0, .int .u8 0, .int .u8 0, .int .u8 0, .int .u8 0, .int .u8 0, .int .u8 0, .int .u8 0, .int .u8 0, .int .u8 0, .int .u8 0, .int .u8 0, .int .u8 0, .int .u8 0, .int .u8 0, .int .u8 0, .int .i64 0]] (World.laidAll_os _ _ _) (by kernel_rfl) (by kernel_rfl) (by kernel_rfl)
      (OpenSpec.preRow_of_cond 8 (x := ([.agg [.lit (.int .i64 0), .lit (.int .i64 0), .agg [.lit (.int .u8 0), .lit (.int .u8 0), .lit (.int .u8 0), .lit (.int .u8 0), .lit (.int .u8 0), .lit (.int .u8 0), .lit (.int .u8 0), .lit (.int .u8 0), .lit (.int .u8 0), .lit (.int .u8 0), .lit (.int .u8 0), .lit (.int .u8 0), .lit (.int .u8 0), .lit (.int .u8 0), .lit (.int .u8 0), .lit (.int .u8 0), .lit (.int .u8 0), .lit (.int .u8 0), .lit (.int .u8 0), .lit (.int .u8 0), .lit (.int .u8 0), .lit (.int .u8 0), .lit (.int .u8 0), .lit (.int .u8 0), .lit (.int .u8 0), .lit (.int .u8 0), .lit (.int .u8 0), .lit (.int .u8 0), .lit (.int .u8 0), .lit (.int .u8 0), .lit (.int .u8 0), .lit (.int .u8 0)], .lit (.int .i64 0)]], [], [])) (by kernel_rfl) (by kernel_rfl) (fun k hk => by cases hk) (by kernel_rfl) (laid_met os _))) ?_
  intro W base args ds gs before hval hW _ _ _ _ hsh _
  exact contract H enc W base args ds gs before hval hW hsh

theorem said : Rows.ScriptTellsSaid :=
  OpenClaim.holds_of_cond 5 Tryd.f5 rfl rfl rfl rfl rfl rfl rfl ⟨rfl, rfl, rfl, rfl, rfl⟩ rfl rfl rfl rfl rfl (by kernel_rfl) Tryd.func5 (by kernel_rfl)
    (of_decide_eq_true (by kernel_rfl)) (by unfold Func.isWrapper; first | (rw [if_pos (by decide +kernel)]; kernel_rfl) | (rw [if_neg (by decide +kernel)]; exact ⟨rfl, rfl⟩))
    (fun os started H enc _ F => by rw [OpenClaim.pre_eq_preRow]; exact lifted os started H enc F)

theorem plain (f : FuncId) (fn : Func) (hf : Tryd.pinned.checked.prog.funcNamed Rows.scriptTellsRow.func = some f) (hfn : Tryd.pinned.checked.prog.funcs[f]? = some fn) :
    false = Tryd.pinned.checked.prog.looks [] ∧ ∀ (j : Nat) t, fn.params[j]? = some t → Tryd.pinned.checked.prog.wantsStandIn t = false := by
  obtain rfl : f = 5 := Option.some.inj ((show Tryd.prog.funcNamed Rows.scriptTellsRow.func = some 5 by kernel_rfl).symm.trans hf) |>.symm
  obtain rfl : fn = Tryd.f5 := (Option.some.inj (Tryd.func5.symm.trans hfn)).symm
  refine ⟨by kernel_rfl, fun j t ht => ?_⟩
  rw [Tryd.params5] at ht
  obtain rfl : t = 42 := by simpa using Array.mem_of_getElem? ht
  exact (show Tryd.prog.wantsStandIn 42 = false by kernel_rfl)

theorem card : Rows.ScriptTellsCardSaid :=
  Claim7.holds_tied_plain_at .later [] _ _ _ _ said (fun _ h => by cases h) (by kernel_rfl) (fun _ h => by cases h) scriptTells_row_tie rfl ⟨rfl, rfl⟩ (by kernel_rfl) rfl plain (by kernel_rfl)
#print axioms card
end Go.Proofs.YtmhhnmbedlhflaaDoor.tells
