/- The line of an act. -/
import Derived.Test.YtmhhnmbedlhflaaDoorRight
import Derived.Deep.RegionWith
namespace Go.Proofs.YtmhhnmbedlhflaaDoor
open Go.RowKit

theorem Tryd.info9 : (Tryd.prog.info? 9).map (fun i => (i.zero, i.size, i.bytes)) = some (some (.string ⟨#[]⟩), 1, 16) := by kernel_rfl
def scells (l : List Bs) : List Value := l.map fun b => .string ⟨b.toArray⟩
theorem scells_append (a b : List Bs) : scells (a ++ b) = scells a ++ scells b := by simp [scells]
theorem scells_len (a : List Bs) : (scells a).length = a.length := by simp [scells]
theorem join_le (c : UInt8) (M : Nat) (l : List Bs) (h : ∀ x ∈ l, x.length ≤ M) : (Lib.join l [c]).length ≤ l.length * (M + 1) := by
  induction l with
  | nil => simp [Lib.join_nil]
  | cons x r ih =>
    cases r with
    | nil => rw [Lib.join_one]; have := h x (by simp); simp; omega
    | cons y r =>
      rw [join_two, List.length_append, List.length_cons]
      have h1 := h x (by simp)
      have h2 := ih (fun z hz => h z (by simp at hz ⊢; right; exact hz))
      rw [List.length_cons (a := x), Nat.succ_mul]
      omega
theorem join_run {w : World} {B : Nat} {v : Value} {n : Nat} {l : List Bs} (h : Owns w B 9 1 v n (scells l)) (h1 : 0 < n) (hn : n ≤ 1000000) (hl : (Lib.join l [32]).length ≤ 1000000000) :
    Calls Tryd.prog 23 #[v, .string ⟨#[32]⟩] w fun e w' => e = .returned (.string ⟨(Lib.join l [32]).toArray⟩) ∧ Below w.heap.size w w' := by
  have hnl : n = l.length := by have := h.1; rw [scells_len] at this; omega
  obtain ⟨g, off, cap, rfl, _, hg, hc, hcell, _⟩ := h.form h1
  have hm : (l.map fun b => (⟨b.toArray⟩ : ByteArray)).map (·.data.toList) = l := by
    rw [List.map_map]
    conv => rhs; rw [← List.map_id l]
    apply List.map_congr_left
    intro b _
    simp
  have := Tryd.strings_Join g off cap (l.map fun b => (⟨b.toArray⟩ : ByteArray)) ⟨#[32]⟩ w (fun j x hx => by
      apply hcell
      simp only [List.getElem?_map, Option.map_eq_some_iff] at hx
      obtain ⟨b, hb, rfl⟩ := hx
      simp [scells, hb]) hg (by simp; omega) (by simp; omega) (by rw [hm]; exact Nat.le_trans hl (by decide))
  rw [hm] at this
  rw [List.length_map, ← hnl] at this
  exact this
theorem Ptrs.grown {w w' : World} {B base : Nat} {t : TypeId} {p n : Nat} {l : List Nat} {v v0 : Value} {xs : List Value} (h : Ptrs w B t p l v) (ho : Owns w base 9 1 v0 n xs) (hg : w.grownBy w' v0.ownBlock) (ht : t ≠ 9) : Ptrs w' B t p l v := by
  rcases h with h | ⟨g, rfl, hb, hk⟩
  · exact .inl h
  · refine .inr ⟨g, rfl, hb, hk.of_block (hg.block g hk.lt ?_)⟩
    intro e
    obtain ⟨_, _, cur, hc⟩ := ho.block e.symm
    exact Blk.ne_ hk (show Blk w g 9 cur from hc) ht rfl
theorem Ptrs.alloc {w : World} {B : Nat} {t : TypeId} {p : Nat} {l : List Nat} {v : Value} (h : Ptrs w B t p l v) (o : Obj) : Ptrs (w.alloc o) B t p l v := by
  rcases h with h | ⟨g, rfl, hb, hk⟩
  · exact .inl h
  · exact .inr ⟨g, rfl, hb, hk.alloc o⟩
theorem Owns.below {w w' : World} {base : Nat} {e : TypeId} {size : Nat} {v : Value} {n : Nat} {xs : List Value} (h : Owns w base e size v n xs) (hb : Below w.heap.size w w') : Owns w' base e size v n xs := h.of_block fun g hg => hb.block g (h.block hg).2.1
def vcells : Array Value := ((List.range 13).map fun k => Value.string ⟨(verb (k : Nat)).toArray⟩).toArray
theorem vcells_get (k : Nat) (h : k < 13) : vcells[k]? = some (.string ⟨(verb (k : Nat)).toArray⟩) := by
  simp [vcells, h]
theorem vcells_run (w : World) : Calls Tryd.prog 18 #[] w fun e w' => e = .returned (.slice (some ⟨w.heap.size, 0, none⟩) 13 13) ∧ w' = w.alloc (.cells vcells 9) := verbs_run w
set_option maxHeartbeats 2000000 in
set_option maxRecDepth 100000 in
theorem text_wrong (k : Int) (N : Nat → Int) (T : Nat → Bs) (kv : Value) (ks : List Int) (w : World) (hI : Ints w 0 kv ks) (hl : ks.length ≤ 1000000) (hr : rightB k N T ks = false) :
    Calls Tryd.prog 7 #[.agg (aCells k N T kv)] w fun e w' => e = .returned (.string ⟨#[]⟩) ∧ Below w.heap.size w w' := by
  have RL := Lib.hid (fun w' (hb : Below w.heap.size w w') => right_run k N T kv ks w' (hI.below hb) hl)
  rw [hr] at RL
  have h1 := acells_size k N T kv
  generalize aCells k N T kv = cs at RL h1
  have H1 := Lib.hid h1
  clear h1 hI hr
  go_enter Tryd.func7, Tryd.ntmps7
  go_wp2_with (refine wpList_load_row rfl 24 _ rfl w.heap.size rfl 24 cs (0, 0) _ (heap_alloc_new w _) Tryd.underlying24 rfl (by rw [H1.out]; exact Tryd.size24) ?_)
  refine (RL.out _ ((Below.refl _ _).alloc (Nat.le_refl _) _)).mono ?_
  rintro e w1 ⟨rfl, hb1⟩
  have HB := Lib.hid (Below.trans ((Below.refl w.heap.size w).alloc (Nat.le_refl _) (.cells cs 24)) (hb1.mono (by simp)))
  clear hb1
  go_wp2_with fail
  go_ret
  exact ⟨rfl, HB.out⟩
set_option maxHeartbeats 2000000 in
set_option maxRecDepth 100000 in
theorem text_right (kn : Nat) (hk12 : kn ≤ 12) (N : Nat → Int) (T : Nat → Bs) (kv : Value) (ks : List Int) (w : World) (hI : Ints w 0 kv ks) (hl : ks.length ≤ 1000000) (hr : rightB kn N T ks = true) :
    Calls Tryd.prog 7 #[.agg (aCells kn N T kv)] w fun e w' => e = .returned (.string ⟨(textB kn N T ks).toArray⟩) ∧ Below w.heap.size w w' := by
  have RL := Lib.hid (fun w' (hb : Below w.heap.size w w') => right_run kn N T kv ks w' (hI.below hb) hl)
  have CL := Lib.hid (fun w' (hb : Below w.heap.size w w') => clean_run kn N T kv ks w' (hI.below hb) hl)
  have HR := Lib.hid hr
  rw [hr] at RL
  have h1 := acells_size kn N T kv
  generalize aCells kn N T kv = cs at RL CL h1
  have H1 := Lib.hid h1
  clear h1 hI hr
  go_enter Tryd.func7, Tryd.ntmps7
  go_wp2_with (refine wpList_load_row rfl 24 _ rfl w.heap.size rfl 24 cs (0, 0) _ (heap_alloc_new w _) Tryd.underlying24 rfl (by rw [H1.out]; exact Tryd.size24) ?_)
  refine (RL.out _ ((Below.refl _ _).alloc (Nat.le_refl _) _)).mono ?_
  rintro e w1 ⟨rfl, hb1⟩
  have b1 := Blk.of_block (Blk.new w 24 cs) (hb1.block w.heap.size (by simp))
  have hB := Below.trans ((Below.refl w.heap.size w).alloc (Nat.le_refl _) (.cells cs 24)) (hb1.mono (by simp))
  have HB1 := Lib.hid hB
  have BL1 := Lib.hid b1
  have hs1 : w.heap.size + 1 ≤ w1.heap.size := by simpa using hb1.size
  clear hb1 hB b1
  go_wp2_with (refine wpList_load_row rfl 24 _ rfl w.heap.size rfl 24 cs (0, 0) _ BL1.out Tryd.underlying24 rfl (by rw [H1.out]; exact Tryd.size24) ?_)
  refine (CL.out _ HB1.out).mono ?_
  rintro e w2 ⟨kv', rfl, hk, hb2⟩
  obtain ⟨A', c', rfl, hkk⟩ := hk
  generalize hO : aCells kn (sel (places kn) 0 N) (sel (txts kn) [] T) (.slice A' (keepOf kn ks).length c') = O
  have hos : O.size = 9 := by rw [← hO]; rfl
  have hone : O.all (·.oneCell') = true := by rw [← hO]; exact acells_one _ _ _ _ _ _
  have HS := Lib.hid (And.intro H1.out (And.intro hos hone))
  have b2 := BL1.out.below hb2
  have b3 : Blk (w2.setRow w.heap.size O) w.heap.size 24 O := setRow_heap w2 _ cs O 24 (0, 0) b2
  have hB3 := keep_row (g := w.heap.size) (HB1.out.trans (hb2.mono HB1.out.size)) (Nat.le_refl _) O
  have hI2 : Ints (w2.setRow w.heap.size O) (w.heap.size + 1) (.slice A' (keepOf kn ks).length c') (keepOf kn ks) := by
    refine Ints.of_block (w := w2) ⟨A', c', rfl, ?_⟩ (by rw [setRow_size]; exact Nat.le_refl _) (fun g hg _ => setRow_other _ _ _ _ (by omega))
    intro h0
    obtain ⟨b, off, hA, hb, r⟩ := hkk h0
    exact ⟨b, off, hA, Nat.le_trans hs1 hb, r⟩
  have HI := Lib.hid hI2
  have HO := Lib.hid hO
  have BL := Lib.hid b3
  have HB3 := Lib.hid hB3
  have BL2 := Lib.hid b2
  have y0 : (w2.setRow w.heap.size O).cell? ⟨w.heap.size, 0, none⟩ = some (.int .i64 (kn : Int)) := by rw [b3.cell, ← hO]; rfl
  have hv : ((w2.setRow w.heap.size O).alloc (.cells vcells 9)).cell? ⟨(w2.setRow w.heap.size O).heap.size, kn, none⟩ = some (.string ⟨(verb (kn : Nat)).toArray⟩) := by
    rw [(Blk.new (w2.setRow w.heap.size O) 9 vcells).cell]
    exact vcells_get kn (by omega)
  have y0' : ((w2.setRow w.heap.size O).alloc (.cells vcells 9)).cell? ⟨w.heap.size, 0, none⟩ = some (.int .i64 (kn : Int)) := by rw [(b3.alloc _).cell, ← hO]; rfl
  have hk13 : (kn : Int) < 13 := by omega
  clear hos hone hO b2 b3 hB3 hkk hI2 hb2
  go_wp2_with (refine wpList_store_row rfl 24 _ _ rfl w.heap.size O rfl rfl 24 cs BL2.out (by rw [HS.out.2.1]; exact Tryd.size24) (by rw [HS.out.1, HS.out.2.1]) HS.out.2.2 ?_)
  generalize w2.setRow w.heap.size O = w3 at *
  have hne := World.new_ne w3 _ y0
  have hO0 : O[0]? = some (.int .i64 (kn : Int)) := by rw [← HO.out]; rfl
  have hO8 : O[8]? = some (.slice A' (keepOf kn ks).length c') := by rw [← HO.out]; rfl
  have hON := fun i (h : 1 ≤ i ∧ i ≤ 5) => acells_num kn (sel (places kn) 0 N) (sel (txts kn) [] T) (.slice A' (keepOf kn ks).length c') h
  have hOT := fun i (h : 6 ≤ i ∧ i ≤ 7) => acells_txt kn (sel (places kn) 0 N) (sel (txts kn) [] T) (.slice A' (keepOf kn ks).length c') h
  rw [HO.out] at hON hOT
  have HO0 := Lib.hid (And.intro hO0 (And.intro hO8 (And.intro hON hOT)))
  obtain ⟨hr1, hr2, hr3, hr4, hr5⟩ := right_parts HR.out
  have HRP := Lib.hid (And.intro hr1 (And.intro hr2 (And.intro hr4 hr5)))
  have hK100 : ((keepOf kn ks).length : Int) ≤ 100 := by omega
  have hown0 := Owns.made (w3.alloc (.cells vcells 9)) 9 1 1 #[.string ⟨(verb (kn : Int)).toArray⟩] rfl (by decide)
  have HOW := Lib.hid hown0
  clear hO0 hO8 hON hOT hr1 hr2 hr3 hr4 hr5 hown0
  have lPW : ((places kn).map (fun i => digs (N i).toNat)).length = (places kn).length := by simp
  have gPW : ∀ (j : Nat) i, (places kn)[j]? = some i → ((places kn).map (fun i => digs (N i).toNat))[j]? = some (digs (N i).toNat) := fun j i h => by simp [h]
  have lTW : ((txts kn).map (fun i => hexT (T i))).length = (txts kn).length := by simp
  have gTW : ∀ (j : Nat) i, (txts kn)[j]? = some i → ((txts kn).map (fun i => hexT (T i)))[j]? = some (hexT (T i)) := fun j i h => by simp [h]
  have lKW : ((keepOf kn ks).map (fun n => digs n.toNat)).length = (keepOf kn ks).length := by simp
  have gKW : ∀ (j : Nat) n, (keepOf kn ks)[j]? = some n → ((keepOf kn ks).map (fun n => digs n.toNat))[j]? = some (digs n.toNat) := fun j i h => by simp [h]
  generalize hPW : (places kn).map (fun i => digs (N i).toNat) = PW at lPW gPW
  generalize hTW : (txts kn).map (fun i => hexT (T i)) = TW at lTW gTW
  generalize hKW : (keepOf kn ks).map (fun n => digs n.toNat) = KW at lKW gKW
  have hW : words kn N T ks = verb (kn : Int) :: (PW ++ TW ++ KW) := by unfold words; rw [hPW, hTW, hKW]
  have HW := Lib.hid hW
  have HP := Lib.hid (And.intro lPW gPW)
  have HT := Lib.hid (And.intro lTW gTW)
  have HK := Lib.hid (And.intro lKW gKW)
  clear lPW gPW lTW gTW lKW gKW hPW hTW hKW hW
  go_region_with (go_at_call 18; refine (vcells_run _).mono ?_; rintro e w' ⟨rfl, rfl⟩)
  all_goals
    clear y0 y0' hv hne
    go_wp2_with fail
    refine (parts_run w.heap.size kn _ ((((BL.out.alloc _).alloc _).drew.cell 0).trans HO0.out.1)).mono ?_
    rintro e w5 ⟨v5, rfl, hp5, hb5⟩
    obtain ⟨A5, rfl⟩ := hp5.len
    have BW : Below w3.heap.size w3 w5 := Below.trans ((((Below.refl _ _).alloc (Nat.le_refl _) (.cells vcells 9)).alloc (by simp) (.cells #[.string ⟨(verb (kn : Int)).toArray⟩] 9)).drew) (hb5.mono (by simp; omega))
    have P5 := Lib.hid (hp5.mono (Nat.zero_le _))
    have HBW := Lib.hid BW
    have O5 : Owns w5 w3.heap.size 9 1 (.slice (some ⟨w3.heap.size + 1, 0, none⟩) 1 1) 1 (scells [verb (kn : Int)]) := by
      have := Owns.below (HOW.out.drew) hb5
      have e : (w3.alloc (.cells vcells 9)).heap.size = w3.heap.size + 1 := by simp
      rw [e] at this
      exact this.mono (by omega)
    have HO5 := Lib.hid O5
    have hnl := places_len kn
    have hnl' : ((places kn).length : Int) ≤ 4 := by omega
    clear hp5 hb5 BW O5
    obtain ⟨ti, hi9, hz0, hz1, hz2⟩ := info_parts Tryd.info9
    go_wp2_with fail
    go_loopg [3, 23] (places kn).length (fun gk v ii wr => ∃ j : Nat, j ≤ (places kn).length ∧ gk = (places kn).length - j ∧ ii = .int .i64 (j : Int) ∧ Owns wr w3.heap.size 9 1 v (1 + j) (scells (verb (kn : Int) :: PW.take j)) ∧
      Ptrs wr 0 52 w.heap.size (places kn) (.slice A5 (places kn).length (places kn).length) ∧ Below w3.heap.size w3 wr)
    case atStart => exact ⟨0, Nat.zero_le _, by omega, rfl, HO5.out, P5.out, HBW.out⟩
    case round =>
      obtain ⟨j, hjn, rfl, rfl, ho, q, hb⟩ := hrel
      by_cases hlt : j < (places kn).length
      · obtain ⟨i, hi⟩ : ∃ i, (places kn)[j]? = some i := ⟨_, List.getElem?_eq_getElem hlt⟩
        have hlt' : (j : Int) < ((places kn).length : Int) := by omega
        have hmem := List.mem_of_getElem? hi
        obtain ⟨gg, e2, _, _, x2⟩ := q.get hi
        injection e2 with e2 _ _
        subst e2
        have x3 : wr.cell? ⟨w.heap.size, i, none⟩ = some (.int .i64 (N i)) := by
          rw [(BL.out.below hb).cell, HO0.out.2.2.1 i (places_in hmem)]
          unfold sel
          rw [if_pos hmem]
        have hN := HRP.out.2.2.1 i hmem
        have hNn : ((N i).toNat : Int) = N i := by omega
        have dg := digits_run (N i).toNat (by omega) wr
        rw [hNn] at dg
        have hnext : scells (verb (kn : Int) :: PW.take (j + 1)) = scells (verb (kn : Int) :: PW.take j) ++ [.string ⟨(digs (N i).toNat).toArray⟩] := by
          rw [List.take_add_one, HP.out.2 j i hi, ← List.cons_append, scells_append]; rfl
        have HN := Lib.hid hnext
        have DG := Lib.hid dg
        have HOr := Lib.hid ho
        have HQ := Lib.hid q
        have HBr := Lib.hid hb
        have hsz := hb.size
        clear hi hmem hN hNn dg hnext ho q hb
        generalize digs (N i).toNat = D at HN DG
        go_wp2_with fail
        refine DG.out.mono ?_
        rintro e w6 ⟨rfl, hb6⟩
        have hown1 := (HOr.out.below hb6).alloc (.cells #[.string ⟨D.toArray⟩] 9)
        have hblk1 := heap_alloc_new w6 (.cells #[.string ⟨D.toArray⟩] 9)
        have HQ6 := Lib.hid ((HQ.out.of_below hb6).alloc (.cells #[.string ⟨D.toArray⟩] 9))
        have HB6 := Lib.hid ((HBr.out.trans (hb6.mono hsz)).alloc (Nat.le_trans hsz hb6.size) (.cells #[.string ⟨D.toArray⟩] 9))
        have hsz6 := hb6.size
        clear hb6
        go_wp2_with (at_builtin; refine wpList_append_owns _ rfl _ _ 47 47 rfl w3.heap.size 9 ti (.string ⟨#[]⟩) 1 16 Tryd.underlying47 hi9 hz0 hz1 hz2 rfl (by decide) _ _ _ rfl hown1 _ 1 [.string ⟨D.toArray⟩] rfl (Src.ofSlice _ Tryd.underlying47 _ 1 1 _ rfl (World.news_of_block hblk1) (by simp [Value.oneCell'])) (by unfold maxLen; omega) (by omega) (by simp; omega) ?_)
        intro v' w7 hown7 hgr7 hblk7 _
        have HO7 := Lib.hid hown7
        have HQ7 := Lib.hid (HQ6.out.grown hown1 hgr7 (by decide))
        have HB7 := Lib.hid (HB6.out.grown hgr7 (by simp; omega) (fun x hx => (hown1.block hx).1))
        clear hown7 hgr7 hblk7 hown1 hblk1
        go_wp2_with fail
        go_roundg ((places kn).length - (j + 1))
        case measure => omega
        case rel => exact ⟨j + 1, by omega, rfl, by go_num, by rw [HN.out]; exact HO7.out, HQ7.out, HB7.out⟩
      · obtain rfl : (places kn).length = j := by omega
        rw [← HP.out.1, List.take_length, HP.out.1] at ho
        have HO8 := Lib.hid ho
        have HB8 := Lib.hid hb
        have hs8 := hb.size
        clear ho q hb
        go_wp2_with fail
        refine (texts_run w.heap.size kn wr (((BL.out.below HB8.out).cell 0).trans HO0.out.1)).mono ?_
        rintro e w9 ⟨v9, rfl, hp9, hb9⟩
        obtain ⟨A9, rfl⟩ := hp9.len
        have P9 := Lib.hid (hp9.mono (Nat.zero_le _))
        have HO9 := Lib.hid (HO8.out.below hb9)
        have HB9 := Lib.hid (HB8.out.trans (hb9.mono hs8))
        have htl := txts_len kn
        have htl' : ((txts kn).length : Int) ≤ 2 := by omega
        clear hp9 hb9
        generalize hL1 : verb (kn : Int) :: PW = L1 at HO9
        have HL1 := Lib.hid hL1
        clear hL1
        go_wp2_with fail
        go_loopg [3, 37] (txts kn).length (fun gk v ii wr => ∃ j : Nat, j ≤ (txts kn).length ∧ gk = (txts kn).length - j ∧ ii = .int .i64 (j : Int) ∧ Owns wr w3.heap.size 9 1 v (1 + (places kn).length + j) (scells (L1 ++ TW.take j)) ∧
          Ptrs wr 0 56 w.heap.size (txts kn) (.slice A9 (txts kn).length (txts kn).length) ∧ Below w3.heap.size w3 wr)
        case atStart => exact ⟨0, Nat.zero_le _, by omega, rfl, by rw [List.take_zero, List.append_nil]; exact HO9.out, P9.out, HB9.out⟩
        case round =>
          obtain ⟨j, hjn, rfl, rfl, ho, q, hb⟩ := hrel
          by_cases hlt : j < (txts kn).length
          · obtain ⟨i, hi⟩ : ∃ i, (txts kn)[j]? = some i := ⟨_, List.getElem?_eq_getElem hlt⟩
            have hlt' : (j : Int) < ((txts kn).length : Int) := by omega
            have hmem := List.mem_of_getElem? hi
            obtain ⟨gg, e2, _, _, x2⟩ := q.get hi
            injection e2 with e2 _ _
            subst e2
            have x3 : wr.cell? ⟨w.heap.size, i, none⟩ = some (.string ⟨(T i).toArray⟩) := by
              rw [(BL.out.below hb).cell, HO0.out.2.2.2 i (txts_in hmem)]
              unfold sel
              rw [if_pos hmem]
            have hTl := HRP.out.2.1 i hmem
            have dg := hex_run (T i) (by omega) wr
            have hnext : scells (L1 ++ TW.take (j + 1)) = scells (L1 ++ TW.take j) ++ [.string ⟨(hexT (T i)).toArray⟩] := by
              rw [List.take_add_one, HT.out.2 j i hi, ← List.append_assoc, scells_append]; rfl
            have HN := Lib.hid hnext
            have DG := Lib.hid dg
            have HOr := Lib.hid ho
            have HQ := Lib.hid q
            have HBr := Lib.hid hb
            have hsz := hb.size
            clear hi hmem hTl dg hnext ho q hb
            generalize hexT (T i) = D at HN DG
            go_wp2_with fail
            refine DG.out.mono ?_
            rintro e w6 ⟨rfl, hb6⟩
            have hown1 := (HOr.out.below hb6).alloc (.cells #[.string ⟨D.toArray⟩] 9)
            have hblk1 := heap_alloc_new w6 (.cells #[.string ⟨D.toArray⟩] 9)
            have HQ6 := Lib.hid ((HQ.out.of_below hb6).alloc (.cells #[.string ⟨D.toArray⟩] 9))
            have HB6 := Lib.hid ((HBr.out.trans (hb6.mono hsz)).alloc (Nat.le_trans hsz hb6.size) (.cells #[.string ⟨D.toArray⟩] 9))
            have hsz6 := hb6.size
            clear hb6
            go_wp2_with (at_builtin; refine wpList_append_owns _ rfl _ _ 47 47 rfl w3.heap.size 9 ti (.string ⟨#[]⟩) 1 16 Tryd.underlying47 hi9 hz0 hz1 hz2 rfl (by decide) _ _ _ rfl hown1 _ 1 [.string ⟨D.toArray⟩] rfl (Src.ofSlice _ Tryd.underlying47 _ 1 1 _ rfl (World.news_of_block hblk1) (by simp [Value.oneCell'])) (by unfold maxLen; omega) (by omega) (by simp; omega) ?_)
            intro v' w7 hown7 hgr7 hblk7 _
            have HO7 := Lib.hid hown7
            have HQ7 := Lib.hid (HQ6.out.grown hown1 hgr7 (by decide))
            have HB7 := Lib.hid (HB6.out.grown hgr7 (by simp; omega) (fun x hx => (hown1.block hx).1))
            clear hown7 hgr7 hblk7 hown1 hblk1
            go_wp2_with fail
            go_roundg ((txts kn).length - (j + 1))
            case measure => omega
            case rel => exact ⟨j + 1, by omega, rfl, by go_num, by rw [HN.out]; exact HO7.out, HQ7.out, HB7.out⟩
          · obtain rfl : (txts kn).length = j := by omega
            rw [← HT.out.1, List.take_length, HT.out.1] at ho
            have HOA := Lib.hid ho
            have HBA := Lib.hid hb
            have x8 : wr.cell? ⟨w.heap.size, 8, none⟩ = some (.slice A' (keepOf kn ks).length c') := ((BL.out.below hb).cell 8).trans HO0.out.2.1
            clear ho q hb
            generalize hL2 : L1 ++ TW = L2 at HOA
            have HL2 := Lib.hid hL2
            clear hL2
            go_wp2_with fail
            go_loopg [3, 52] (keepOf kn ks).length (fun gk v ii wr => ∃ j : Nat, j ≤ (keepOf kn ks).length ∧ gk = (keepOf kn ks).length - j ∧ ii = .int .i64 (j : Int) ∧ Owns wr w3.heap.size 9 1 v (1 + (places kn).length + (txts kn).length + j) (scells (L2 ++ KW.take j)) ∧ Below w3.heap.size w3 wr)
            case atStart => exact ⟨0, Nat.zero_le _, by omega, rfl, by rw [List.take_zero, List.append_nil]; exact HOA.out, HBA.out⟩
            case round =>
              obtain ⟨j, hjn, rfl, rfl, ho, hb⟩ := hrel
              by_cases hlt : j < (keepOf kn ks).length
              · obtain ⟨n, hi⟩ : ∃ n, (keepOf kn ks)[j]? = some n := ⟨_, List.getElem?_eq_getElem hlt⟩
                have hlt' : (j : Int) < ((keepOf kn ks).length : Int) := by omega
                have hmem := List.mem_of_getElem? hi
                obtain ⟨A3, c3, e3, hI3⟩ := HI.out.below hb
                injection e3 with e3 _ ec
                subst ec
                obtain ⟨b3, off3, hA3, _, _, hc3⟩ := hI3 (by omega)
                have eA : A' = some ⟨b3, off3, none⟩ := e3.trans hA3
                subst eA
                have x3 := hc3 j n hi
                have hN := HRP.out.2.2.2 n hmem
                have hNn : ((n).toNat : Int) = n := by omega
                have dg := digits_run n.toNat (by omega) wr
                rw [hNn] at dg
                have hnext : scells (L2 ++ KW.take (j + 1)) = scells (L2 ++ KW.take j) ++ [.string ⟨(digs n.toNat).toArray⟩] := by
                  rw [List.take_add_one, HK.out.2 j n hi, ← List.append_assoc, scells_append]; rfl
                have HN := Lib.hid hnext
                have DG := Lib.hid dg
                have HOr := Lib.hid ho
                have HBr := Lib.hid hb
                have hsz := hb.size
                have hnl2 : (keepOf kn ks).length ≤ 100 := by omega
                clear hi hmem hN hNn dg hnext ho hb hc3 hI3 e3 hA3
                generalize digs n.toNat = D at HN DG
                go_wp2_with fail
                refine DG.out.mono ?_
                rintro e w6 ⟨rfl, hb6⟩
                have hown1 := (HOr.out.below hb6).alloc (.cells #[.string ⟨D.toArray⟩] 9)
                have hblk1 := heap_alloc_new w6 (.cells #[.string ⟨D.toArray⟩] 9)
                have HB6 := Lib.hid ((HBr.out.trans (hb6.mono hsz)).alloc (Nat.le_trans hsz hb6.size) (.cells #[.string ⟨D.toArray⟩] 9))
                have hsz6 := hb6.size
                clear hb6
                go_wp2_with (at_builtin; refine wpList_append_owns _ rfl _ _ 47 47 rfl w3.heap.size 9 ti (.string ⟨#[]⟩) 1 16 Tryd.underlying47 hi9 hz0 hz1 hz2 rfl (by decide) _ _ _ rfl hown1 _ 1 [.string ⟨D.toArray⟩] rfl (Src.ofSlice _ Tryd.underlying47 _ 1 1 _ rfl (World.news_of_block hblk1) (by simp [Value.oneCell'])) (by unfold maxLen; omega) (by omega) (by simp; omega) ?_)
                intro v' w7 hown7 hgr7 hblk7 _
                have HO7 := Lib.hid hown7
                have HB7 := Lib.hid (HB6.out.grown hgr7 (by simp; omega) (fun x hx => (hown1.block hx).1))
                clear hown7 hgr7 hblk7 hown1 hblk1
                go_wp2_with fail
                go_roundg ((keepOf kn ks).length - (j + 1))
                case measure => omega
                case rel => exact ⟨j + 1, by omega, rfl, by go_num, by rw [HN.out]; exact HO7.out, HB7.out⟩
              · obtain rfl : (keepOf kn ks).length = j := by omega
                rw [← HK.out.1, List.take_length, HK.out.1] at ho
                have hall : L2 ++ KW = words kn N T ks := by rw [HW.out, ← HL2.out, ← HL1.out]; simp
                rw [hall] at ho
                have hwl := words_len HR.out
                have HJ := Lib.hid (join_run ho (by omega) (by omega) (Nat.le_trans (join_le 32 400 _ hwl.2) (by have := hwl.1; omega)))
                have HBr := Lib.hid hb
                have hsz := hb.size
                clear ho hb hall hwl
                go_wp2_with fail
                refine HJ.out.mono ?_
                rintro e w8 ⟨rfl, hb8⟩
                have HB8' := Lib.hid (HB3.out.trans ((HBr.out.trans (hb8.mono hsz)).mono HB3.out.size))
                clear hb8
                go_wp2_with fail
                go_ret
                exact ⟨rfl, HB8'.out⟩
theorem text_run (k : Int) (N : Nat → Int) (T : Nat → Bs) (kv : Value) (ks : List Int) (w : World) (hI : Ints w 0 kv ks) (hl : ks.length ≤ 1000000) :
    Calls Tryd.prog 7 #[.agg (aCells k N T kv)] w fun e w' => e = .returned (.string ⟨(if rightB k N T ks then textB k N T ks else []).toArray⟩) ∧ Below w.heap.size w w' := by
  cases hr : rightB k N T ks
  · exact text_wrong k N T kv ks w hI hl hr
  · obtain ⟨⟨h1, h2⟩, _⟩ := right_parts hr
    obtain ⟨kn, rfl⟩ := Int.eq_ofNat_of_zero_le h1
    exact text_right kn (by omega) N T kv ks w hI hl hr
end Go.Proofs.YtmhhnmbedlhflaaDoor
