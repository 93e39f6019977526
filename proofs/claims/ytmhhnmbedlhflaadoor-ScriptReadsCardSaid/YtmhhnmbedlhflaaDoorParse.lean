/- The act of a line. -/
import Derived.Test.YtmhhnmbedlhflaaDoorNext
import Derived.Test.YtmhhnmbedlhflaaDoorParseP
import Derived.Test.YtmhhnmbedlhflaaDoorText
namespace Go.Proofs.YtmhhnmbedlhflaaDoor
open Go.RowKit

theorem split_words (s : Bs) : (Lib.splitB ⟨#[32]⟩ 0 (Lib.countB ⟨s.toArray⟩ ⟨#[32]⟩) ⟨s.toArray⟩).map Value.string = (cutAt 32 s).map (fun x => Value.string ⟨x.toArray⟩) := by
  have h := Lib.splitB_data ⟨#[32]⟩ 0 (Lib.countB ⟨s.toArray⟩ ⟨#[32]⟩) ⟨s.toArray⟩
  have e : Lib.countB ⟨s.toArray⟩ ⟨#[32]⟩ = Lib.count s [32] := by simp [Lib.countB]
  simp only [List.toList_toArray] at h
  rw [e] at h ⊢
  rw [splitK_cut] at h
  rw [← h, List.map_map]
  apply List.map_congr_left
  intro b _
  simp
theorem split_len (s : Bs) : Lib.countB ⟨s.toArray⟩ ⟨#[32]⟩ + 1 = (cutAt 32 s).length := by
  have h := congrArg List.length (split_words s)
  rw [List.length_map, List.length_map, Lib.splitB_all _ (by decide) _ _ _ rfl] at h
  exact h
theorem cut_short (c : UInt8) (s : Bs) : (cutAt c s).length ≤ s.length + 1 ∧ ∀ x ∈ cutAt c s, x.length ≤ s.length := by
  induction s with
  | nil => simp [cutAt]
  | cons b l ih =>
    unfold cutAt
    split
    · refine ⟨by simp; omega, fun x hx => ?_⟩
      rcases List.mem_cons.1 hx with rfl | hx
      · simp
      · have := ih.2 x hx; simp; omega
    · split
      · rename_i e; rw [e] at ih; simp
      · rename_i h t e
        rw [e] at ih
        refine ⟨by have := ih.1; simp at this ⊢; omega, fun x hx => ?_⟩
        rcases List.mem_cons.1 hx with rfl | hx
        · have := ih.2 h (by simp); simp; omega
        · have := ih.2 x (by simp [hx]); simp; omega

/- the map of verbs -/
def vents (i : Nat) : List (ByteArray × Value) := (List.range i).map fun (k : Nat) => (⟨(verb (k : Int)).toArray⟩, .int .i64 (k : Int))
theorem set_new {α : Type} [DecidableEq α] : ∀ (l : List (α × Value)) (a : α) (v : Value), getE l a = none → setE l a v = l ++ [(a, v)]
  | [], _, _, _ => rfl
  | x :: l, a, v, h => by
    rw [getE_cons] at h
    by_cases e : a = x.1
    · rw [if_pos e] at h; cases h
    · rw [if_neg e] at h
      unfold setE
      rw [if_neg e, set_new l a v h]; rfl
theorem verb_inj : ∀ i : Nat, i < 13 → ∀ j : Nat, j < i → verb (i : Int) ≠ verb (j : Int) := by decide
theorem vents_none (i : Nat) (x : Bs) (h : ∀ j : Nat, j < i → x ≠ verb (j : Int)) : getE (vents i) ⟨x.toArray⟩ = none := by
  rw [getE_none]
  intro hm
  simp only [vents, List.map_map, List.mem_map, List.mem_range, Function.comp] at hm
  obtain ⟨j, hj, e⟩ := hm
  refine h j hj ?_
  injection e with e
  have := congrArg Array.toList e
  simpa using this.symm
theorem vents_succ (i : Nat) (hi : i < 13) : setE (vents i) ⟨(verb (i : Int)).toArray⟩ (.int .i64 (i : Int)) = vents (i + 1) := by
  rw [set_new _ _ _ (vents_none i _ (verb_inj i hi))]
  simp [vents, List.range_succ]
theorem vents_get (x : Bs) : getE (vents 13) ⟨x.toArray⟩ = (kindOf x).map (fun k => Value.int .i64 (k : Int)) := by
  cases h : kindOf x with
  | none =>
    rw [vents_none]
    · rfl
    · intro j hj e
      unfold kindOf at h
      rw [List.find?_eq_none] at h
      exact h j (List.mem_range.2 hj) (decide_eq_true e.symm)
  | some k =>
    obtain ⟨hk, rfl⟩ := kindOf_some h
    clear h
    have : ∀ m : Nat, k < m → m ≤ 13 → getE (vents m) ⟨(verb (k : Int)).toArray⟩ = some (.int .i64 (k : Int)) := by
      intro m hm h13
      induction m with
      | zero => omega
      | succ m ih =>
        rw [← vents_succ m (by omega), getE_set]
        by_cases e : k = m
        · subst e; rw [if_pos rfl]
        · rw [if_neg, ih (by omega) (by omega)]
          intro e'
          injection e' with e'
          have e2 := congrArg Array.toList e'
          have e3 : verb (k : Int) = verb (m : Int) := by simpa using e2
          exact verb_inj m (by omega) k (by omega) e3.symm
    exact this 13 hk (by omega)

/- what is known of the words to come -/
def I1 (s : Bs) (k : Nat) (ps : List Nat) (N : Nat → Int) (ws : List Bs) (f : Bool) : Prop := (f = true → parseO s = p1 k ps N ws.tail) ∧ (f = false → parseO s = none)
def I2 (s : Bs) (k : Nat) (N : Nat → Int) (ps : List Nat) (T : Nat → Bs) (ws : List Bs) (f : Bool) : Prop := (f = true → parseO s = p2 k N ps T ws.tail) ∧ (f = false → parseO s = none)
def I3 (s : Bs) (k : Nat) (N : Nat → Int) (T : Nat → Bs) (ks : List Int) (ws : List Bs) (f : Bool) : Prop := (f = true → parseO s = p3 k N T ws.tail ks) ∧ (f = false → parseO s = none)
theorem I1.step {s : Bs} {k p : Nat} {ps : List Nat} {N : Nat → Int} {ws : List Bs} {f : Bool} (h : I1 s k (p :: ps) N ws f) : I1 s k ps (upd N p (takeN ws)) (nextL ws) (takeF ws f) := by
  match ws, h with
  | [], h =>
    refine ⟨fun e => by simp [takeF, nextF] at e, fun _ => ?_⟩
    cases f
    · exact h.2 rfl
    · rw [h.1 rfl]; rfl
  | [x], h =>
    refine ⟨fun e => by simp [takeF, nextF] at e, fun _ => ?_⟩
    cases f
    · exact h.2 rfl
    · rw [h.1 rfl]; rfl
  | x :: y :: r, h =>
    cases f
    · exact ⟨fun e => by simp [takeF, nextF] at e, fun _ => h.2 rfl⟩
    · have h1 := h.1 rfl
      rw [List.tail_cons, p1_cons] at h1
      refine ⟨fun e => ?_, fun e => ?_⟩
      · simp only [takeF, nextF, nextW, Bool.true_and] at e
        rw [h1, if_pos e]; rfl
      · simp only [takeF, nextF, nextW, Bool.true_and] at e
        rw [h1, if_neg (by simp [e])]
theorem I2.step {s : Bs} {k p : Nat} {ps : List Nat} {N : Nat → Int} {T : Nat → Bs} {ws : List Bs} {f : Bool} (h : I2 s k N (p :: ps) T ws f) {v : Bs} (hv : ∀ a, txtB (nextW ws) = some a → v = a) :
    I2 s k N ps (upd T p v) (nextL ws) (nextF ws f && (txtB (nextW ws)).isSome) := by
  match ws, h, hv with
  | [], h, hv =>
    refine ⟨fun e => by simp [nextF] at e, fun _ => ?_⟩
    cases f
    · exact h.2 rfl
    · rw [h.1 rfl]; rfl
  | [x], h, hv =>
    refine ⟨fun e => by simp [nextF] at e, fun _ => ?_⟩
    cases f
    · exact h.2 rfl
    · rw [h.1 rfl]; rfl
  | x :: y :: r, h, hv =>
    cases f
    · exact ⟨fun e => by simp [nextF] at e, fun _ => h.2 rfl⟩
    · have h1 := h.1 rfl
      have hv' : ∀ a, txtB y = some a → v = a := hv
      rw [List.tail_cons, p2_cons _ _ _ _ _ _ v _ hv'] at h1
      refine ⟨fun e => ?_, fun e => ?_⟩
      · simp only [nextF, nextW, Bool.true_and] at e
        rw [h1, if_pos e]; rfl
      · simp only [nextF, nextW, Bool.true_and] at e
        rw [h1, if_neg (by simp [e])]
theorem I3.step {s : Bs} {N : Nat → Int} {T : Nat → Bs} {ks : List Int} {ws : List Bs} {f : Bool} (h : I3 s 12 N T ks ws f) (hl : 1 < ws.length) : I3 s 12 N T (ks ++ [takeN ws]) (nextL ws) (takeF ws f) := by
  match ws, h, hl with
  | x :: y :: r, h, _ =>
    cases f
    · exact ⟨fun e => by simp [takeF, nextF] at e, fun _ => h.2 rfl⟩
    · have h1 := h.1 rfl
      rw [List.tail_cons, p3_cons] at h1
      refine ⟨fun e => ?_, fun e => ?_⟩
      · simp only [takeF, nextF, nextW, Bool.true_and] at e
        rw [h1, if_pos e]; rfl
      · simp only [takeF, nextF, nextW, Bool.true_and] at e
        rw [h1, if_neg (by simp [e])]
/-- At the end. -/
theorem I3.done {s : Bs} {k : Nat} {N : Nat → Int} {T : Nat → Bs} {ks : List Int} {ws : List Bs} {f : Bool} (h : I3 s k N T ks ws f) (h0 : 0 < ws.length) (hk : k = 12 → f = true → ¬ 1 < ws.length) :
    parseO s = if f = true ∧ ¬ 1 < ws.length ∧ rightB k N T ks = true then some (k, N, T, ks) else none := by
  cases f
  · rw [h.2 rfl, if_neg (by simp)]
  · rw [h.1 rfl]
    match ws, h0, hk with
    | [x], _, _ =>
      rw [List.tail_cons]
      by_cases h12 : k = 12
      · subst h12; rw [p3_12]; simp
      · rw [p3_other h12]; simp
    | x :: y :: r, _, hk =>
      have h12 : k ≠ 12 := fun e => hk e rfl (by simp)
      rw [List.tail_cons, p3_more h12, if_neg (by simp)]
end Go.Proofs.YtmhhnmbedlhflaaDoor
