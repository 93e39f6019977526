/- ScriptLines' card is proved. -/
import Derived.Test.YtmhhnmbedlhflaaDoorLines
import Derived.Test.YtmhhnmbedlhflaaDoorHoldsB
namespace Go.Proofs.YtmhhnmbedlhflaaDoor.lines
open Go.RowKit Go.WideShapes Go.ChangeShapes Go.ChangeAt
open Go.ChangeMaps (open_string shut_string)
set_option maxRecDepth 100000

theorem cells3 : Tryd.prog.cellsOf 3 = 1 := by kernel_rfl
theorem cells9 : Tryd.prog.cellsOf 9 = 1 := by kernel_rfl
theorem cells22 : Tryd.prog.cellsOf 22 = 1 := by kernel_rfl
theorem cells24 : Tryd.prog.cellsOf 24 = 9 := by kernel_rfl
/-- A slice of numbers that came in. -/
theorem ints_open {H : Type} {enc : TypeId × Value → H} {W : World} {c : Value} {x : DataW H × List MemPlace} {fuel : Nat}
    (h : DataW.trod enc Tryd.prog W 0 (fun _ => true) true fuel 22 [c] = some x) : ∃ ks, Ints W 0 c ks := by
  rcases Deep.open_slice Tryd.underlying22 h with ⟨hcs, hx⟩ | ⟨a, len, cap, m, n, D, Pl, hcs, _, hl, hmx, hm, hx, hel⟩
  · simp only [List.cons.injEq, and_true] at hcs
    exact ⟨[], by rw [hcs]; exact Ints.nil _ _⟩
  · simp only [List.cons.injEq, and_true] at hcs
    have hmm : m = cap := by rw [hm]; rfl
    have each : ∀ i, i < len → ∃ q : Int, W.cell? (a.add i) = some (.int .i64 q) := by
      intro i hi
      obtain ⟨cs', h1, h2⟩ := hel i (by omega)
      rw [cells3, Nat.mul_one] at h1
      obtain ⟨_, hlen, hcell⟩ := World.cells?_some h1
      obtain ⟨q, hq, _, _⟩ := DataW.trod_int Tryd.underlying3 h2
      have g0 := hcell 0 (by omega)
      rw [hq, Deep.add_add, Nat.add_zero] at g0
      exact ⟨q, g0⟩
    obtain ⟨F, hF⟩ := Deep.choose_lt each
    have hln : ((List.range len).map F).length = len := by simp
    refine ⟨(List.range len).map F, some a, cap, by rw [hcs, hln], fun h0 => ?_⟩
    rw [hln] at h0
    have ha0 : a.add 0 = a := by simp [Addr.add]
    have hz := hF 0 h0
    rw [ha0] at hz
    have hsp : a.spot = none := by
      unfold World.cell? at hz
      split at hz
      · cases hs : a.spot with
        | none => rfl
        | some s => rw [hs] at hz; simp at hz
      · cases hz
    cases a with | mk ab ao az =>
    simp only at hsp
    subst hsp
    refine ⟨ab, ao, rfl, Nat.zero_le _, World.block_lt_of_cell? W _ hz, fun j n hj => ?_⟩
    have hjl : j < len := by
      have := (List.getElem?_eq_some_iff.1 hj).1
      rwa [hln] at this
    have e := hF j hjl
    have : n = F j := by
      rw [List.getElem?_map, List.getElem?_range hjl] at hj
      simpa using hj.symm
    rw [this, ← e]
    congr 1
    unfold Addr.add
    by_cases hi : j = 0
    · subst hi; simp
    · rw [if_neg hi]
/-- An act that came in. -/
theorem act_open {H : Type} {enc : TypeId × Value → H} {W : World} {cs : Array Value} {d : DataW H} {ps : List MemPlace}
    (h : DataW.Trod enc Tryd.prog W 0 (fun _ => true) true 24 (.agg cs) d ps) : ∃ (k : Int) (N : Nat → Int) (t6 t7 : Bs) (A : Option Addr) (ks : List Int) (c : Nat), cs = aCells k N (fun i => if i = 6 then t6 else if i = 7 then t7 else []) (.slice A ks.length c) ∧ Ints W 0 (.slice A ks.length c) ks := by
  obtain ⟨fuel, hf⟩ := h
  have hf : DataW.trod enc Tryd.prog W 0 (fun _ => true) true fuel 24 cs.toList = some (d, ps) := hf
  obtain ⟨xs, m, _, _, hl, hlen, he⟩ := DataW.trod_struct Tryd.underlying24 hf
  rw [cells24] at hl
  have hx9 : xs.length = 9 := by simpa using hlen
  have e0 := he 0 { name := "Kind", type := 3, offset := 0, embedded := false, tag := "", pkgPath := "", byteOffset := 0 } rfl
  have e1 := he 1 { name := "Who", type := 3, offset := 1, embedded := false, tag := "", pkgPath := "", byteOffset := 8 } rfl
  have e2 := he 2 { name := "To", type := 3, offset := 2, embedded := false, tag := "", pkgPath := "", byteOffset := 16 } rfl
  have e3 := he 3 { name := "File", type := 3, offset := 3, embedded := false, tag := "", pkgPath := "", byteOffset := 24 } rfl
  have e4 := he 4 { name := "More", type := 3, offset := 4, embedded := false, tag := "", pkgPath := "", byteOffset := 32 } rfl
  have e5 := he 5 { name := "Limit", type := 3, offset := 5, embedded := false, tag := "", pkgPath := "", byteOffset := 40 } rfl
  have e6 := he 6 { name := "Key", type := 9, offset := 6, embedded := false, tag := "", pkgPath := "", byteOffset := 48 } rfl
  have e7 := he 7 { name := "Val", type := 9, offset := 7, embedded := false, tag := "", pkgPath := "", byteOffset := 64 } rfl
  have e8 := he 8 { name := "Keep", type := 22, offset := 8, embedded := false, tag := "", pkgPath := "", byteOffset := 80 } rfl
  simp only [cells3, cells9, cells22] at e0 e1 e2 e3 e4 e5 e6 e7 e8
  clear he hlen
  match xs, hx9 with
  | [y0, y1, y2, y3, y4, y5, y6, y7, y8], _ =>
    obtain ⟨n0, c0, _, _⟩ := DataW.trod_int Tryd.underlying3 e0
    obtain ⟨n1, c1, _, _⟩ := DataW.trod_int Tryd.underlying3 e1
    obtain ⟨n2, c2, _, _⟩ := DataW.trod_int Tryd.underlying3 e2
    obtain ⟨n3, c3, _, _⟩ := DataW.trod_int Tryd.underlying3 e3
    obtain ⟨n4, c4, _, _⟩ := DataW.trod_int Tryd.underlying3 e4
    obtain ⟨n5, c5, _, _⟩ := DataW.trod_int Tryd.underlying3 e5
    obtain ⟨t6, c6, _, _⟩ := DataW.trod_string Tryd.underlying9 e6
    obtain ⟨t7, c7, _, _⟩ := DataW.trod_string Tryd.underlying9 e7
    have hcs9 : cs.toList.length = 9 := hl
    match hc : cs.toList, hcs9 with
    | [x0, x1, x2, x3, x4, x5, x6, x7, x8], _ =>
      rw [hc] at c0 c1 c2 c3 c4 c5 c6 c7 e8
      simp only [List.drop_succ_cons, List.drop_zero, List.take_succ_cons, List.take_zero, List.cons.injEq, and_true] at c0 c1 c2 c3 c4 c5 c6 c7 e8
      obtain ⟨ks, hks⟩ := ints_open e8
      have hks' := hks
      obtain ⟨A, c, hv, _⟩ := hks'
      refine ⟨n0, fun i => if i = 1 then n1 else if i = 2 then n2 else if i = 3 then n3 else if i = 4 then n4 else n5, t6.data.toList, t7.data.toList, A, ks, c, ?_, by rw [← hv]; exact hks⟩
      apply Array.toList_inj.1
      rw [hc, c0, c1, c2, c3, c4, c5, c6, c7, hv]
      simp [aCells]

theorem contract (H : Type) (enc : TypeId × Value → H) (W : World) (base : Nat) (args : Array Value) (ds gs : List (DataW H)) (before : List MemPlace)
    (hval : ∀ (j : Nat) t v, Tryd.f3.params[j]? = some t → args[j]? = some v → Value.okWide Tryd.prog W .any base t v)
    (hW : DataW.Whole enc Tryd.prog Tryd.f3.params.toList Rows.scriptLinesSpec.vars false W args.toList ds gs before) (hsh : W.ShapedOpen Tryd.prog) :
    Calls Tryd.prog 3 args W fun e W' => ∃ v, e = .returned v ∧ Rows.scriptLinesSpec.post enc Tryd.prog Tryd.f3 false true false false W args v W' := by
  have hW' := hW
  obtain ⟨m, hm⟩ := max_cell hsh
  obtain ⟨p, q, hA0, hV, rfl, hfz, hnd⟩ := hW
  have hA : DataW.TrodAll enc Tryd.prog W 0 (fun _ => true) true Tryd.f3.params.toList args.toList ds p := hA0
  rw [Tryd.params3] at hA hval
  obtain ⟨v0, d0, rfl, rfl, h0⟩ := trodAll_one hA
  obtain ⟨rfl, rfl⟩ := trodVars_none hV
  obtain ⟨cs, rfl, _⟩ := okWide_struct Tryd.underlying24 (hval 0 24 v0 rfl rfl)
  obtain ⟨k, N, t6, t7, A, ks, c, rfl, hI⟩ := act_open h0
  clear hA0
  have hcall : Calls Tryd.prog 3 #[.agg (aCells k N (fun i => if i = 6 then t6 else if i = 7 then t7 else []) (.slice A ks.length c))] W fun e w' => e = .returned (.bool true) ∧ Below W.heap.size W w' := by
    by_cases h : 400 < t6.length ∨ 400 < t7.length ∨ 200 < ks.length
    · exact lines_long k N _ A ks.length c W h
    · exact lines_main k N _ A ks c m W hI (show t6.length ≤ 400 by omega) (show t7.length ≤ 400 by omega) (by omega) (fun i => by
        split
        · omega
        · split
          · omega
          · simp) hm
  refine hcall.mono fun e W' ⟨he, hb⟩ => ?_
  subst he
  exact ⟨_, rfl, law_post hW' rfl rfl rfl Tryd.underlying4 laidOut (by intro t ht; rw [Tryd.params3] at ht; simp at ht; rcases ht with rfl; exact ⟨by kernel_rfl, of_decide_eq_true (by kernel_rfl)⟩) hb⟩

theorem lifted (os : Os) (started : os.Started) (H : Type) (enc : TypeId × Value → H) (F : Stop.Interp) :
    ReturnsInHanded {} Tryd.checked os 3 .any ((OpenSpec.ofChange Rows.scriptLinesSpec).preRow enc Tryd.prog Tryd.f3 Rows.scriptLinesRow.domain false Rows.scriptLinesRow.laid) (((OpenSpec.ofChange Rows.scriptLinesSpec).at F).post enc Tryd.prog Tryd.f3 false true false false) := by
  refine returnsInHanded_of_row (C := Tryd.checked) (s := OpenSpec.ofChange Rows.scriptLinesSpec) own started (by kernel_rfl) Tryd.func3
    (witness_row_at (enc := enc) (C := Tryd.checked) false (World.laidAll Tryd.prog os Rows.scriptLinesRow.laid) #[.agg #[.int .i64 0, .int .i64 0, .int .i64 0, .int .i64 0, .int .i64 0, .int .i64 0, .string .empty, .string .empty, .slice none 0 0]] (World.laidAll_os _ _ _) (by kernel_rfl) (by kernel_rfl) (by kernel_rfl)
      (OpenSpec.preRow_of_cond 8 (x := ([.agg [.lit (.int .i64 0), .lit (.int .i64 0), .lit (.int .i64 0), .lit (.int .i64 0), .lit (.int .i64 0), .lit (.int .i64 0), .lit (.string []), .lit (.string []), .nil]], [], [])) (by kernel_rfl) (by kernel_rfl) (fun k hk => by cases hk) (by kernel_rfl) (laid_met os _))) ?_
  intro W base args ds gs before hval hW _ _ _ _ hsh _
  exact contract H enc W base args ds gs before hval hW hsh

theorem said : Rows.ScriptLinesSaid :=
  OpenClaim.holds_of_cond 3 Tryd.f3 rfl rfl rfl rfl rfl rfl rfl ⟨rfl, rfl, rfl, rfl, rfl⟩ rfl rfl rfl rfl rfl (by kernel_rfl) Tryd.func3 (by kernel_rfl)
    (of_decide_eq_true (by kernel_rfl)) (by unfold Func.isWrapper; first | (rw [if_pos (by decide +kernel)]; kernel_rfl) | (rw [if_neg (by decide +kernel)]; exact ⟨rfl, rfl⟩))
    (fun os started H enc _ F => by rw [OpenClaim.pre_eq_preRow]; exact lifted os started H enc F)

theorem plain (f : FuncId) (fn : Func) (hf : Tryd.pinned.checked.prog.funcNamed Rows.scriptLinesRow.func = some f) (hfn : Tryd.pinned.checked.prog.funcs[f]? = some fn) :
    false = Tryd.pinned.checked.prog.looks [] ∧ ∀ (j : Nat) t, fn.params[j]? = some t → Tryd.pinned.checked.prog.wantsStandIn t = false := by
  obtain rfl : f = 3 := Option.some.inj ((show Tryd.prog.funcNamed Rows.scriptLinesRow.func = some 3 by kernel_rfl).symm.trans hf) |>.symm
  obtain rfl : fn = Tryd.f3 := (Option.some.inj (Tryd.func3.symm.trans hfn)).symm
  refine ⟨by kernel_rfl, fun j t ht => ?_⟩
  rw [Tryd.params3] at ht
  obtain rfl : t = 24 := by simpa using Array.mem_of_getElem? ht
  exact (show Tryd.prog.wantsStandIn 24 = false by kernel_rfl)

theorem card : Rows.ScriptLinesCardSaid :=
  Claim7.holds_tied_plain_at .later [] _ _ _ _ said (fun _ h => by cases h) (by kernel_rfl) (fun _ h => by cases h) scriptLines_row_tie rfl ⟨rfl, rfl⟩ (by kernel_rfl) rfl plain (by kernel_rfl)
#print axioms card
end Go.Proofs.YtmhhnmbedlhflaaDoor.lines
