/- A line, read plainly: it is the line of the act that is read of it, which is right. -/
import Derived.Test.YtmhhnmbedlhflaaDoorActP
namespace Go.Proofs.YtmhhnmbedlhflaaDoor

def kindOf (x : Bs) : Option Nat := (List.range 13).find? fun (k : Nat) => decide (verb (k : Int) = x)
theorem kindOf_verb : ∀ k : Nat, k < 13 → kindOf (verb (k : Int)) = some k := by decide
theorem kindOf_some {x : Bs} {k : Nat} (h : kindOf x = some k) : k < 13 ∧ verb (k : Int) = x := by
  unfold kindOf at h
  have h1 := List.find?_some h
  have h2 := List.mem_of_find?_eq_some h
  exact ⟨List.mem_range.1 h2, of_decide_eq_true h1⟩

def numsO : List Nat → List Bs → (Nat → Int) → Option ((Nat → Int) × List Bs)
  | [], r, N => some (N, r)
  | _ :: _, [], _ => none
  | p :: ps, x :: r, N => match numB x with
    | none => none
    | some n => numsO ps r (upd N p (n : Int))
def txtsO : List Nat → List Bs → (Nat → Bs) → Option ((Nat → Bs) × List Bs)
  | [], r, T => some (T, r)
  | _ :: _, [], _ => none
  | p :: ps, x :: r, T => match txtB x with
    | none => none
    | some a => txtsO ps r (upd T p a)
def keepsO : List Bs → List Int → Option (List Int)
  | [], ks => some ks
  | x :: r, ks => match numB x with
    | none => none
    | some n => keepsO r (ks ++ [(n : Int)])
def restO (k : Nat) (r : List Bs) : Option (List Int) := if k = 12 then keepsO r [] else if r = [] then some [] else none
def parseO (s : Bs) : Option (Nat × (Nat → Int) × (Nat → Bs) × List Int) := match cutAt 32 s with
  | [] => none
  | h :: r => match kindOf h with
    | none => none
    | some k => match numsO (places k) r (fun _ => 0) with
      | none => none
      | some (N, r1) => match txtsO (txts k) r1 (fun _ => []) with
        | none => none
        | some (T, r2) => match restO k r2 with
          | none => none
          | some ks => if rightB k N T ks = true then some (k, N, T, ks) else none

theorem upd_other {α : Type} (f : Nat → α) {i j : Nat} (v : α) (h : j ≠ i) : upd f i v j = f j := if_neg h
theorem upd_same {α : Type} (f : Nat → α) (i : Nat) (v : α) : upd f i v i = v := if_pos rfl
theorem numsO_some : ∀ (ps : List Nat) (r : List Bs) (N N' : Nat → Int) (r' : List Bs), ps.Nodup → numsO ps r N = some (N', r') →
    r = ps.map (fun p => digs (N' p).toNat) ++ r' ∧ (∀ i, i ∉ ps → N' i = N i) ∧ ∀ p ∈ ps, 0 ≤ N' p ∧ N' p < 2147483648
  | [], r, N, N', r', _, h => by
    simp only [numsO, Option.some.injEq, Prod.mk.injEq] at h
    obtain ⟨rfl, rfl⟩ := h
    exact ⟨rfl, fun _ _ => rfl, fun p hp => by cases hp⟩
  | p :: ps, [], N, N', r', _, h => by cases h
  | p :: ps, x :: r, N, N', r', hd, h => by
    rw [numsO] at h
    split at h
    · cases h
    · rename_i n hn
      obtain ⟨hx, hlt⟩ := numB_some hn
      rw [List.nodup_cons] at hd
      obtain ⟨h1, h2, h3⟩ := numsO_some ps r _ N' r' hd.2 h
      have hp : N' p = (n : Int) := by rw [h2 p hd.1, upd_same]
      refine ⟨by rw [h1, hx, List.map_cons, hp]; rfl, fun i hi => ?_, fun q hq => ?_⟩
      · rw [List.mem_cons, not_or] at hi
        rw [h2 i hi.2, upd_other _ _ hi.1]
      · rcases List.mem_cons.1 hq with rfl | hq
        · rw [hp]; omega
        · exact h3 q hq
theorem txtsO_some : ∀ (ps : List Nat) (r : List Bs) (T T' : Nat → Bs) (r' : List Bs), ps.Nodup → txtsO ps r T = some (T', r') →
    r = ps.map (fun p => hexT (T' p)) ++ r' ∧ (∀ i, i ∉ ps → T' i = T i)
  | [], r, T, T', r', _, h => by
    simp only [txtsO, Option.some.injEq, Prod.mk.injEq] at h
    obtain ⟨rfl, rfl⟩ := h
    exact ⟨rfl, fun _ _ => rfl⟩
  | p :: ps, [], T, T', r', _, h => by cases h
  | p :: ps, x :: r, T, T', r', hd, h => by
    rw [txtsO] at h
    split at h
    · cases h
    · rename_i a ha
      have hx := hexT_txtB ha
      rw [List.nodup_cons] at hd
      obtain ⟨h1, h2⟩ := txtsO_some ps r _ T' r' hd.2 h
      have hp : T' p = a := by rw [h2 p hd.1, upd_same]
      refine ⟨by rw [h1, hx, List.map_cons, hp]; rfl, fun i hi => ?_⟩
      rw [List.mem_cons, not_or] at hi
      rw [h2 i hi.2, upd_other _ _ hi.1]
theorem keepsO_some : ∀ (r : List Bs) (ks ks' : List Int), keepsO r ks = some ks' → ∃ l, ks' = ks ++ l ∧ r = l.map (fun n => digs n.toNat)
  | [], ks, ks', h => ⟨[], by simp only [keepsO, Option.some.injEq] at h; simp [h], rfl⟩
  | x :: r, ks, ks', h => by
    rw [keepsO] at h
    split at h
    · cases h
    · rename_i n hn
      obtain ⟨l, h1, h2⟩ := keepsO_some r _ ks' h
      exact ⟨(n : Int) :: l, by rw [h1]; simp, by rw [h2, (numB_some hn).1]; simp⟩
theorem numsO_right : ∀ (ps : List Nat) (r : List Bs) (N M : Nat → Int), ps.Nodup → (∀ p ∈ ps, 0 ≤ M p ∧ M p < 2147483648) →
    numsO ps (ps.map (fun p => digs (M p).toNat) ++ r) N = some (fun i => if i ∈ ps then M i else N i, r)
  | [], r, N, M, _, _ => by simp [numsO]
  | p :: ps, r, N, M, hd, hM => by
    rw [List.nodup_cons] at hd
    have hp := hM p List.mem_cons_self
    rw [List.map_cons, List.cons_append, numsO, numB_digs _ (by omega)]
    simp only
    rw [numsO_right ps r _ M hd.2 (fun q hq => hM q (List.mem_cons_of_mem _ hq))]
    congr 2
    funext i
    have e : ((M p).toNat : Int) = M p := by omega
    by_cases h : i ∈ ps
    · rw [if_pos h, if_pos (List.mem_cons_of_mem _ h)]
    · rw [if_neg h, e]
      by_cases hi : i = p
      · subst hi; rw [upd_same, if_pos List.mem_cons_self]
      · rw [upd_other _ _ hi, if_neg (by simp [h, hi])]
theorem txtsO_right : ∀ (ps : List Nat) (r : List Bs) (T M : Nat → Bs), ps.Nodup →
    txtsO ps (ps.map (fun p => hexT (M p)) ++ r) T = some (fun i => if i ∈ ps then M i else T i, r)
  | [], r, T, M, _ => by simp [txtsO]
  | p :: ps, r, T, M, hd => by
    rw [List.nodup_cons] at hd
    rw [List.map_cons, List.cons_append, txtsO, txtB_hexT]
    simp only
    rw [txtsO_right ps r _ M hd.2]
    congr 2
    funext i
    by_cases h : i ∈ ps
    · rw [if_pos h, if_pos (List.mem_cons_of_mem _ h)]
    · rw [if_neg h]
      by_cases hi : i = p
      · subst hi; rw [upd_same, if_pos List.mem_cons_self]
      · rw [upd_other _ _ hi, if_neg (by simp [h, hi])]
theorem keepsO_right : ∀ (l ks : List Int), (∀ n ∈ l, 0 ≤ n ∧ n < 2147483648) → keepsO (l.map (fun n => digs n.toNat)) ks = some (ks ++ l)
  | [], ks, _ => by simp [keepsO]
  | n :: l, ks, h => by
    have hn := h n List.mem_cons_self
    rw [List.map_cons, keepsO, numB_digs _ (by omega)]
    simp only
    rw [keepsO_right l _ (fun m hm => h m (List.mem_cons_of_mem _ hm))]
    have e : ((n.toNat : Nat) : Int) = n := by omega
    rw [e]; simp

theorem verb_no : ∀ k : Nat, k < 13 → (32 : UInt8) ∉ verb (k : Int) := by decide
theorem words_no {k : Nat} (hk : k < 13) (N : Nat → Int) (T : Nat → Bs) (ks : List Int) : ∀ y ∈ words k N T ks, (32 : UInt8) ∉ y := by
  intro y hy
  unfold words at hy
  simp only [List.mem_cons, List.mem_append, List.mem_map] at hy
  rcases hy with rfl | (⟨i, _, rfl⟩ | ⟨i, _, rfl⟩) | ⟨n, _, rfl⟩
  · exact verb_no k hk
  · exact digs_no 32 (by decide) _
  · exact hexT_no _
  · exact digs_no 32 (by decide) _
theorem cut_text {k : Nat} (hk : k < 13) (N : Nat → Int) (T : Nat → Bs) (ks : List Int) : cutAt 32 (textB k N T ks) = words k N T ks := by
  unfold textB
  have h := words_no hk N T ks
  unfold words at h ⊢
  exact cut_join 32 _ _ h
theorem rightB_sel {k : Int} {N : Nat → Int} {T : Nat → Bs} {ks : List Int} {N' : Nat → Int} {T' : Nat → Bs} (hN : ∀ i ∈ places k, N' i = N i) (hT : ∀ i ∈ txts k, T' i = T i) : rightB k N' T' (keepOf k ks) = rightB k N T ks := by
  have e : keepOf k (keepOf k ks) = keepOf k ks := by unfold keepOf; split <;> simp_all
  have e1 : (places k).all (fun i => small (N' i)) = (places k).all (fun i => small (N i)) := by
    rw [Bool.eq_iff_iff]
    simp only [List.all_eq_true]
    exact ⟨fun h i hi => by rw [← hN i hi]; exact h i hi, fun h i hi => by rw [hN i hi]; exact h i hi⟩
  have e2 : (txts k).all (fun i => decide ((T' i).length ≤ 200)) = (txts k).all (fun i => decide ((T i).length ≤ 200)) := by
    rw [Bool.eq_iff_iff]
    simp only [List.all_eq_true]
    exact ⟨fun h i hi => by rw [← hT i hi]; exact h i hi, fun h i hi => by rw [hT i hi]; exact h i hi⟩
  unfold rightB
  rw [e, e1, e2]
theorem words_sel {k : Int} {N : Nat → Int} {T : Nat → Bs} {ks : List Int} {N' : Nat → Int} {T' : Nat → Bs} (hN : ∀ i ∈ places k, N' i = N i) (hT : ∀ i ∈ txts k, T' i = T i) : words k N' T' (keepOf k ks) = words k N T ks := by
  have e : keepOf k (keepOf k ks) = keepOf k ks := by unfold keepOf; split <;> simp_all
  unfold words
  rw [e]
  congr 3
  · apply List.map_congr_left
    intro i hi
    rw [hN i hi]
  · apply List.map_congr_left
    intro i hi
    rw [hT i hi]
theorem parse_text {k : Nat} {N : Nat → Int} {T : Nat → Bs} {ks : List Int} (h : rightB k N T ks = true) :
    parseO (textB k N T ks) = some (k, sel (places k) 0 N, sel (txts k) [] T, keepOf k ks) := by
  obtain ⟨h1, _, _, h4, h5⟩ := right_parts h
  have hk : k < 13 := by omega
  unfold parseO
  rw [cut_text hk]
  have hw : words k N T ks = verb (k : Int) :: ((places k).map (fun i => digs (N i).toNat) ++ ((txts k).map (fun i => hexT (T i)) ++ (keepOf k ks).map (fun n => digs n.toNat))) := by unfold words; simp
  rw [hw]
  simp only
  rw [kindOf_verb k hk]
  simp only
  rw [numsO_right _ _ _ _ (places_nodup _) h4]
  simp only
  rw [txtsO_right _ _ _ _ (txts_nodup _)]
  simp only
  have hr : restO k ((keepOf k ks).map (fun n => digs n.toNat)) = some (keepOf k ks) := by
    unfold restO
    by_cases h12 : k = 12
    · rw [if_pos h12, keepsO_right _ _ h5]; rfl
    · have : keepOf (k : Int) ks = [] := by unfold keepOf; rw [if_neg (by omega)]
      rw [if_neg h12, this, List.map_nil, if_pos rfl]
  rw [hr]
  simp only
  rw [if_pos]
  · rfl
  · rw [rightB_sel (N := N) (T := T)]
    · exact h
    · intro i hi; simp [hi]
    · intro i hi; simp [hi]
theorem parse_some {s : Bs} {k : Nat} {N : Nat → Int} {T : Nat → Bs} {ks : List Int} (h : parseO s = some (k, N, T, ks)) :
    rightB k N T ks = true ∧ textB k N T ks = s ∧ k < 13 ∧ sel (places k) 0 N = N ∧ sel (txts k) [] T = T ∧ keepOf k ks = ks := by
  unfold parseO at h
  split at h
  · cases h
  rename_i hd r hc
  split at h
  · cases h
  rename_i k' hk
  split at h
  · cases h
  rename_i N' r1 hn
  split at h
  · cases h
  rename_i T' r2 ht
  split at h
  · cases h
  rename_i ks' hr
  split at h
  · rename_i hR
    simp only [Option.some.injEq, Prod.mk.injEq] at h
    obtain ⟨rfl, rfl, rfl, rfl⟩ := h
    obtain ⟨hk1, hk2⟩ := kindOf_some hk
    obtain ⟨n1, n2, _⟩ := numsO_some _ _ _ _ _ (places_nodup _) hn
    obtain ⟨t1, t2⟩ := txtsO_some _ _ _ _ _ (txts_nodup _) ht
    have hks : keepOf (k' : Int) ks' = ks' ∧ r2 = ks'.map (fun n => digs n.toNat) := by
      unfold restO at hr
      split at hr
      · rename_i e
        obtain ⟨l, e1, e2⟩ := keepsO_some _ _ _ hr
        rw [List.nil_append] at e1
        subst e1
        exact ⟨by unfold keepOf; rw [if_pos (by omega)], e2⟩
      · rename_i e
        split at hr
        · rename_i e2
          injection hr with hr
          subst hr
          exact ⟨by unfold keepOf; split <;> rfl, e2⟩
        · cases hr
    refine ⟨hR, ?_, hk1, ?_, ?_, hks.1⟩
    · have hj := join_cut 32 s
      rw [hc] at hj
      rw [← hj]
      unfold textB words
      rw [hks.1, hk2, n1, t1, hks.2]
      simp
    · funext i
      unfold sel
      split
      · rfl
      · rename_i hi; exact (n2 i hi).symm
    · funext i
      unfold sel
      split
      · rfl
      · rename_i hi; exact (t2 i hi).symm
  · cases h
theorem keepOf_len {k : Int} {N : Nat → Int} {T : Nat → Bs} {ks : List Int} (h : keepOf k ks = ks) (hr : rightB k N T ks = true) : ks.length ≤ 100 := by
  have := (right_parts hr).2.2.1
  rwa [h] at this

/- Parse, by its parts. -/
def p3 (k : Nat) (N : Nat → Int) (T : Nat → Bs) (r : List Bs) (ks : List Int) : Option (Nat × (Nat → Int) × (Nat → Bs) × List Int) := match (if k = 12 then keepsO r ks else if r = [] then some ks else none) with
  | none => none
  | some ks => if rightB k N T ks = true then some (k, N, T, ks) else none
def p2 (k : Nat) (N : Nat → Int) (ps : List Nat) (T : Nat → Bs) (r : List Bs) : Option (Nat × (Nat → Int) × (Nat → Bs) × List Int) := match txtsO ps r T with
  | none => none
  | some (T, r) => p3 k N T r []
def p1 (k : Nat) (ps : List Nat) (N : Nat → Int) (r : List Bs) : Option (Nat × (Nat → Int) × (Nat → Bs) × List Int) := match numsO ps r N with
  | none => none
  | some (N, r) => p2 k N (txts k) (fun _ => []) r
theorem parseO_eq {s h : Bs} {r : List Bs} (hc : cutAt 32 s = h :: r) : parseO s = match kindOf h with
    | none => none
    | some k => p1 k (places k) (fun _ => 0) r := by
  unfold parseO p1 p2 p3 restO
  rw [hc]
theorem p1_nil (k : Nat) (N : Nat → Int) (r : List Bs) : p1 k [] N r = p2 k N (txts k) (fun _ => []) r := rfl
theorem p1_none (k p : Nat) (ps : List Nat) (N : Nat → Int) : p1 k (p :: ps) N [] = none := rfl
theorem p1_cons (k p : Nat) (ps : List Nat) (N : Nat → Int) (x : Bs) (r : List Bs) : p1 k (p :: ps) N (x :: r) = if (numB x).isSome = true then p1 k ps (upd N p ((numB x).getD 0 : Nat)) r else none := by
  unfold p1
  rw [numsO]
  cases numB x <;> rfl
theorem p2_nil (k : Nat) (N : Nat → Int) (T : Nat → Bs) (r : List Bs) : p2 k N [] T r = p3 k N T r [] := rfl
theorem p2_none (k : Nat) (N : Nat → Int) (p : Nat) (ps : List Nat) (T : Nat → Bs) : p2 k N (p :: ps) T [] = none := rfl
theorem p2_cons (k : Nat) (N : Nat → Int) (p : Nat) (ps : List Nat) (T : Nat → Bs) (x v : Bs) (r : List Bs) (hv : ∀ a, txtB x = some a → v = a) :
    p2 k N (p :: ps) T (x :: r) = if (txtB x).isSome = true then p2 k N ps (upd T p v) r else none := by
  unfold p2
  rw [txtsO]
  cases h : txtB x with
  | none => rfl
  | some a => rw [hv a h]; rfl
theorem p3_other {k : Nat} (hk : k ≠ 12) (N : Nat → Int) (T : Nat → Bs) (ks : List Int) : p3 k N T [] ks = (if rightB k N T ks = true then some (k, N, T, ks) else none) := by
  unfold p3
  rw [if_neg hk, if_pos rfl]
theorem p3_more {k : Nat} (hk : k ≠ 12) (N : Nat → Int) (T : Nat → Bs) (x : Bs) (r : List Bs) (ks : List Int) : p3 k N T (x :: r) ks = none := by
  unfold p3
  rw [if_neg hk, if_neg (by simp)]
theorem p3_12 (N : Nat → Int) (T : Nat → Bs) (ks : List Int) : p3 12 N T [] ks = (if rightB 12 N T ks = true then some (12, N, T, ks) else none) := by
  unfold p3
  rw [if_pos rfl, keepsO]
  rfl
theorem p3_cons (N : Nat → Int) (T : Nat → Bs) (x : Bs) (r : List Bs) (ks : List Int) : p3 12 N T (x :: r) ks = if (numB x).isSome = true then p3 12 N T r (ks ++ [(((numB x).getD 0 : Nat) : Int)]) else none := by
  unfold p3
  rw [if_pos rfl, keepsO]
  cases numB x <;> simp
end Go.Proofs.YtmhhnmbedlhflaaDoor
