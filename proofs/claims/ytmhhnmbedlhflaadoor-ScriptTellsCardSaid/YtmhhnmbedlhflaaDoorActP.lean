/- Acts, plainly. -/
import Derived.Test.YtmhhnmbedlhflaaDoorLine
namespace Go.Proofs.YtmhhnmbedlhflaaDoor

/-- The numbers that a kind's line has: places in an act. -/
def places (k : Int) : List Nat :=
  if k = 0 ∨ k = 11 then [1, 4] else if k = 1 then [1, 2, 4, 5] else if k = 2 ∨ k = 4 ∨ k = 9 then [1, 3] else if k = 3 ∨ k = 5 ∨ k = 12 then [1] else
  if k = 6 then [3, 2, 4] else if k = 8 then [3, 5] else if k = 10 then [3] else []
def txts (k : Int) : List Nat := if k = 0 then [6, 7] else if k = 7 then [6] else []
def verb (k : Int) : Bs :=
  if k = 0 then [108, 111, 99, 97, 108] else if k = 1 then [101, 120, 112, 111, 114, 116] else if k = 2 then [115, 116, 97, 103, 101] else
  if k = 3 then [105, 109, 112, 111, 114, 116] else if k = 4 then [108, 101, 97, 114, 110] else if k = 5 then [100, 114, 111, 112] else
  if k = 6 then [115, 112, 111, 105, 108] else if k = 7 then [102, 111, 114, 103, 101] else if k = 8 then [119, 114, 97, 112] else
  if k = 9 then [99, 97, 114, 114, 121] else if k = 10 then [117, 110, 119, 114, 97, 112] else if k = 11 then [97, 114, 109] else
  if k = 12 then [102, 97, 108, 108] else []
def sel {α : Type} (l : List Nat) (z : α) (f : Nat → α) : Nat → α := fun i => if i ∈ l then f i else z
def upd {α : Type} (f : Nat → α) (i : Nat) (v : α) : Nat → α := fun j => if j = i then v else f j
def small (n : Int) : Bool := decide (0 ≤ n) && decide (n < 2147483648)
def keepOf (k : Int) (ks : List Int) : List Int := if k = 12 then ks else []
theorem places_in {k : Int} {i : Nat} (h : i ∈ places k) : 1 ≤ i ∧ i ≤ 5 := by
  unfold places at h
  repeat' split at h
  all_goals simp at h
  all_goals omega
theorem txts_in {k : Int} {i : Nat} (h : i ∈ txts k) : 6 ≤ i ∧ i ≤ 7 := by
  unfold txts at h
  repeat' split at h
  all_goals simp at h
  all_goals omega
theorem places_len (k : Int) : (places k).length ≤ 4 := by
  unfold places
  repeat' split
  all_goals simp
theorem txts_len (k : Int) : (txts k).length ≤ 2 := by
  unfold txts
  repeat' split
  all_goals simp
theorem places_nodup (k : Int) : (places k).Nodup := by
  unfold places
  repeat' split
  all_goals decide
theorem txts_nodup (k : Int) : (txts k).Nodup := by
  unfold txts
  repeat' split
  all_goals decide
/-- May an act be a line? -/
def rightB (k : Int) (N : Nat → Int) (T : Nat → Bs) (ks : List Int) : Bool :=
  decide (0 ≤ k) && decide (k ≤ 12) && (txts k).all (fun i => decide ((T i).length ≤ 200)) && decide ((keepOf k ks).length ≤ 100) &&
  (places k).all (fun i => small (N i)) && (keepOf k ks).all small
/-- An act's words. -/
def words (k : Int) (N : Nat → Int) (T : Nat → Bs) (ks : List Int) : List Bs :=
  verb k :: ((places k).map (fun i => digs (N i).toNat) ++ (txts k).map (fun i => hexT (T i)) ++ (keepOf k ks).map (fun n => digs n.toNat))
def textB (k : Int) (N : Nat → Int) (T : Nat → Bs) (ks : List Int) : Bs := Lib.join (words k N T ks) [32]
theorem txts_all (k : Int) (T : Nat → Bs) : (txts k).all (fun i => decide ((T i).length ≤ 200)) = decide ((sel (txts k) [] T 6).length ≤ 200 ∧ (sel (txts k) [] T 7).length ≤ 200) := by
  unfold txts
  repeat' split
  · simp [sel]
  · simp [sel]
  · simp [sel]
theorem rightB_eq (k : Int) (N : Nat → Int) (T : Nat → Bs) (ks : List Int) : rightB k N T ks =
    (decide ((0 ≤ k ∧ k ≤ 12) ∧ (sel (txts k) [] T 6).length ≤ 200 ∧ (sel (txts k) [] T 7).length ≤ 200 ∧ (keepOf k ks).length ≤ 100) && ((places k).all (fun i => small (N i)) && (keepOf k ks).all small)) := by
  unfold rightB
  rw [txts_all]
  by_cases h1 : 0 ≤ k <;> by_cases h2 : k ≤ 12 <;> by_cases h3 : (sel (txts k) [] T 6).length ≤ 200 <;> by_cases h4 : (sel (txts k) [] T 7).length ≤ 200 <;> by_cases h5 : (keepOf k ks).length ≤ 100 <;> simp [h1, h2, h3, h4, h5]
theorem right_parts {k : Int} {N : Nat → Int} {T : Nat → Bs} {ks : List Int} (h : rightB k N T ks = true) :
    (0 ≤ k ∧ k ≤ 12) ∧ (∀ i ∈ txts k, (T i).length ≤ 200) ∧ (keepOf k ks).length ≤ 100 ∧ (∀ i ∈ places k, 0 ≤ N i ∧ N i < 2147483648) ∧ ∀ n ∈ keepOf k ks, 0 ≤ n ∧ n < 2147483648 := by
  unfold rightB small at h
  simp only [Bool.and_eq_true, List.all_eq_true, decide_eq_true_eq] at h
  obtain ⟨⟨⟨⟨⟨h1, h2⟩, h3⟩, h4⟩, h5⟩, h6⟩ := h
  exact ⟨⟨h1, h2⟩, h3, h4, h5, h6⟩
theorem ite_len {p : Prop} [Decidable p] {a b : Bs} {n : Nat} (ha : a.length ≤ n) (hb : b.length ≤ n) : (if p then a else b).length ≤ n := by split <;> assumption
theorem verb_len (k : Int) : (verb k).length ≤ 6 := by
  unfold verb
  repeat (refine ite_len (by decide) ?_)
  decide
theorem words_len {k : Int} {N : Nat → Int} {T : Nat → Bs} {ks : List Int} (h : rightB k N T ks = true) : (words k N T ks).length ≤ 107 ∧ ∀ x ∈ words k N T ks, x.length ≤ 400 := by
  obtain ⟨_, h2, h3, h4, h5⟩ := right_parts h
  have p := places_len k
  have t := txts_len k
  refine ⟨by simp [words]; omega, fun x hx => ?_⟩
  simp only [words, List.mem_cons, List.mem_append, List.mem_map] at hx
  rcases hx with rfl | (⟨i, hi, rfl⟩ | ⟨i, hi, rfl⟩) | ⟨n, hn, rfl⟩
  · have := verb_len k; omega
  · have := h4 i hi
    have := digs_len (N i).toNat 9 (by omega)
    omega
  · have := h2 i hi
    unfold hexT
    split
    · simp
    · rw [hexB_len]; omega
  · have := h5 n hn
    have := digs_len n.toNat 9 (by omega)
    omega
end Go.Proofs.YtmhhnmbedlhflaaDoor
