/- Parse: the walk. -/
import Derived.Test.YtmhhnmbedlhflaaDoorParse
import Derived.Test.YtmhhnmbedlhflaaDoorBytes
import Derived.RegionTactic
import Derived.Deep.RegionLaw
import Derived.Laws.EntriesVeiled
import Derived.Outline
namespace Go.Proofs.YtmhhnmbedlhflaaDoor
open Go.RowKit

theorem Ptrs.setCell2 {w : World} {B : Nat} {t : TypeId} {p : Nat} {l : List Nat} {v : Value} {F i : Nat} {u : Value} (h : Ptrs w B t p l v) (hF : ¬ B ≤ F) : Ptrs (w.setCell ⟨F, i, none⟩ u) B t p l v := by
  rcases h with h | ⟨g, rfl, hg, hk⟩
  · exact .inl h
  · exact .inr ⟨g, rfl, hg, hk.far (by show g ≠ F; omega) u⟩
def zCells : Array Value := aCells 0 (fun _ => 0) (fun _ => []) (.slice none 0 0)
theorem zCells_one : zCells.all (·.oneCell') = true := acells_one _ _ _ _ _ _
theorem Blk.keepF {G : Nat → Prop} {w w' : World} {g : Nat} {t : TypeId} {cs : Array Value} (h : Blk w g t cs) (k : Keep G w w') (hg : ¬ G g) : Blk w' g t cs := k.blk h hg
theorem Tryd.info3 : (Tryd.prog.info? 3).map (fun i => (i.zero, i.size, i.bytes)) = some (some (.int .i64 0), 1, 8) := by kernel_rfl
theorem Tryd.zero3 (w : World) : (zeroValue 3).run Tryd.prog w = .ok (.int .i64 0) w := by kernel_rfl
set_option maxHeartbeats 4000000 in
set_option maxRecDepth 100000 in
theorem parse_walk (s : Bs) (hl : s.length ≤ 900000) (m : Int) (w : World) (hm : w.cell? ⟨0, 0, none⟩ = some (.int .i64 m)) :
    Calls Tryd.prog 12 #[.string ⟨s.toArray⟩] w fun e w' => (∃ k N T ks kv err, e = .returned (.tuple #[.agg (aCells k N T kv), .int .i64 err]) ∧ Ints w' w.heap.size kv ks ∧
      ((err = 0 ∧ 0 ≤ k ∧ parseO s = some (k.toNat, N, T, ks)) ∨ (err = 30 ∧ parseO s = none ∧ k = 0 ∧ N = (fun _ => 0) ∧ T = (fun _ => []) ∧ ks = []))) ∧ Below w.heap.size w w' := by
  have hh0 := World.block_lt_of_cell? w _ hm
  simp at hh0
  have hsp := Lib.hid (fun w m hm => Tryd.strings_Split ⟨s.toArray⟩ ⟨#[32]⟩ m w (by simp [ByteArray.size]; omega) hm (by decide))
  have hsw := split_words s
  have hsl := split_len s
  obtain ⟨hcl, hcs⟩ := cut_short 32 s
  obtain ⟨x0, r0, hx0⟩ : ∃ x r, cutAt 32 s = x :: r := by
    cases hc : cutAt 32 s with
    | nil => exact absurd hc (cutAt_ne 32 s)
    | cons x r => exact ⟨x, r, rfl⟩
  have hP := parseO_eq hx0
  rw [hx0] at hsw hsl hcl hcs
  have HSW := Lib.hid (And.intro hsw (And.intro hsl (And.intro hcl (And.intro hcs hP))))
  have hm1 := fun o => (Below.heap_alloc w o 0 hh0)
  have HM := Lib.hid (fun o => (World.cell?_of_block (a := ⟨0, 0, none⟩) (w := w) (hm1 o)).trans hm)
  clear hsw hsl hcl hcs hP hm1 hm hx0
  go_enter Tryd.func12, Tryd.ntmps12
  go_wp2_with fail
  refine (hsp.out _ m (HM.out _)).mono ?_
  rintro e w1 ⟨rfl, rfl⟩
  rw [HSW.out.1, HSW.out.2.1]
  have hmm := @run_makeMap Tryd.prog
  have hx0l : (x0 :: r0).length ≤ 900001 := Nat.le_trans HSW.out.2.2.1 (by omega)
  simp at hx0l
  go_wp2_with fail
  refine (vcells_run _).mono ?_
  rintro e w1 ⟨rfl, rfl⟩
  clear hmm
  go_wp2_with fail
  go_loopg [24] 13 (fun gk ii wr => ∃ j : Nat, j ≤ 13 ∧ gk = 13 - j ∧ ii = .int .i64 (j : Int) ∧ MapIs strKeys wr (w.heap.size + 1 + 1 + 1) (vents j) ∧ Blk wr w.heap.size 24 (aCells 0 (fun _ => 0) (fun _ => []) (.slice none 0 0)) ∧
    Blk wr (w.heap.size + 1) 9 ((x0 :: r0).map (fun x => Value.string ⟨x.toArray⟩)).toArray ∧ Blk wr (w.heap.size + 1 + 1) 47 #[.slice (some ⟨w.heap.size + 1, 0, none⟩) (r0.length + 1) (r0.length + 1)] ∧ Blk wr (w.heap.size + 1 + 1 + 1 + 1) 9 vcells ∧ Below w.heap.size w wr ∧ wr.heap.size = w.heap.size + 1 + 1 + 1 + 1 + 1)
  case atStart =>
    refine ⟨0, Nat.zero_le _, rfl, rfl, ?_, ?_, ?_, ?_, ?_, ?_, by simp⟩
    · have := (MapIs.made (K := strKeys) (((w.alloc (.cells #[.int .i64 0, .int .i64 0, .int .i64 0, .int .i64 0, .int .i64 0, .int .i64 0, .string ⟨#[]⟩, .string ⟨#[]⟩, .slice none 0 0] 24)).alloc (.cells ((x0 :: r0).map (fun x => Value.string ⟨x.toArray⟩)).toArray 9)).alloc (.cells #[.slice (some ⟨w.heap.size + 1, 0, none⟩) (r0.length + 1) (r0.length + 1)] 47))).alloc (.cells vcells 9)
      rw [show vents 0 = [] from rfl]
      simpa using this
    · exact ((((Blk.new w 24 _).alloc _).alloc _).alloc _).alloc _
    · exact (((blk_at (w.alloc _) 9 _ (w.heap.size + 1) (by simp)).alloc _).alloc _).alloc _
    · exact ((blk_at ((w.alloc _).alloc _) 47 _ (w.heap.size + 1 + 1) (by simp)).alloc _).alloc _
    · exact blk_at ((((w.alloc _).alloc _).alloc _).alloc _) 9 _ (w.heap.size + 1 + 1 + 1 + 1) (by simp)
    · exact ((((((Below.refl w.heap.size w).alloc (Nat.le_refl _) _).alloc (by simp) _).alloc (by simp; omega) _).alloc (by simp; omega) _).alloc (by simp; omega) _)
  case round =>
    obtain ⟨j, hjn, rfl, rfl, hM, b1, b2, b3, b4, hb, hsz⟩ := hrel
    by_cases hlt : j < 13
    · have hlt' : (j : Int) < 13 := by omega
      have x1 : wr.cell? ⟨w.heap.size + 1 + 1 + 1 + 1, j, none⟩ = some (.string ⟨(verb (j : Int)).toArray⟩) := by rw [b4.cell]; exact vcells_get j hlt
      obtain ⟨w5, hup, hM5, hG5, hS5⟩ := hM.update (P := Tryd.prog) Tryd.underlying64 Tryd.underlying9 ⟨(verb (j : Int)).toArray⟩ (.int .i64 (j : Int))
      rw [vents_succ j hlt] at hM5
      have hup' : (Instr.mapUpdate 64 (.map (some (w.heap.size + 1 + 1 + 1))) (.string ⟨(verb (j : Int)).toArray⟩) (.int .i64 (j : Int))).run Tryd.prog wr = .ok () w5 := hup
      have blk5 : ∀ {g : Nat} {t : TypeId} {cs : Array Value}, Blk wr g t cs → g ≠ w.heap.size + 1 + 1 + 1 → Blk w5 g t cs := fun h hg => h.of_block (hG5.block _ h.lt (by simp; exact hg))
      have D := Lib.hid (And.intro hM5 (And.intro (blk5 b1 (by omega)) (And.intro (blk5 b2 (by omega)) (And.intro (blk5 b3 (by omega)) (And.intro (blk5 b4 (by omega)) (And.intro (hb.grown hG5 (by omega) (fun k hk => by injection hk; omega)) (hS5.trans hsz)))))))
      clear hM b1 b2 b3 b4 hb hsz hup hM5 hG5 hS5 blk5
      go_wp2_with fail
      go_roundg (13 - (j + 1))
      case measure => omega
      case rel =>
        obtain ⟨d1, d2, d3, d4, d5, d6, d7⟩ := D.out
        exact ⟨j + 1, by omega, rfl, by go_num, d1, d2, d3, d4, d5, d6, d7⟩
    · obtain rfl : 13 = j := by omega
      obtain ⟨kn, hkn⟩ : ∃ kn, kn = (kindOf x0).getD 0 := ⟨_, rfl⟩
      obtain ⟨f0, hf0⟩ : ∃ f0, f0 = (kindOf x0).isSome := ⟨_, rfl⟩
      have hI : I1 s kn (places kn) (fun _ => 0) (x0 :: r0) f0 := by
        have hP := HSW.out.2.2.2.2
        constructor
        · intro e
          rw [hf0] at e
          obtain ⟨k, hk⟩ := Option.isSome_iff_exists.1 e
          rw [hP, hkn, hk]; rfl
        · intro e
          rw [hf0] at e
          rw [hP, Option.isSome_eq_false_iff.1 e |> Option.isNone_iff_eq_none.1]
      have hk13 : kn < 13 := by
        rw [hkn]
        cases hk : kindOf x0 with
        | none => decide
        | some k => exact (kindOf_some hk).1
      have hlk := hM.lookup (P := Tryd.prog) Tryd.underlying64 Tryd.underlying9 ⟨x0.toArray⟩ (Tryd.zero3 wr) true
      rw [vents_get x0] at hlk
      have hlk' : (Instr.lookup 64 (.map (some (w.heap.size + 1 + 1 + 1))) (.string ⟨x0.toArray⟩) true).run Tryd.prog wr = .ok (.tuple #[.int .i64 (kn : Int), .bool f0]) wr := by
        rw [hkn, hf0]
        refine Eq.trans hlk ?_
        cases kindOf x0 <;> rfl
      have x1 := b3.cell 0
      simp at x1
      have x2 : wr.cell? ⟨w.heap.size + 1, 0, none⟩ = some (.string ⟨x0.toArray⟩) := by rw [b2.cell]; rfl
      have HM5 := Lib.hid (And.intro b1 (And.intro b2 (And.intro b3 hb)))
      have HI := Lib.hid hI
      have HK := Lib.hid (And.intro hkn (And.intro hf0 hk13))
      clear hI hkn hf0 hk13 hlk hM b1 b2 b3 b4 hb
      have hsz' := hsz
      go_wp2_with fail
      have hS : St (((wr.alloc (.cells #[.bool f0] 4)).alloc (.cells #[.func (.func 30) #[] #[.pointer (some ⟨w.heap.size + 1 + 1, 0, none⟩), .pointer (some ⟨w.heap.size + 1 + 1 + 1 + 1 + 1, 0, none⟩)]] 36)).alloc (.cells (aCells (kn : Int) (fun _ => 0) (fun _ => []) (.slice none 0 0)) 24)) (w.heap.size + 1 + 1) (w.heap.size + 1 + 1 + 1 + 1 + 1) (w.heap.size + 1 + 1 + 1 + 1 + 1 + 1) (w.heap.size + 1 + 1 + 1 + 1 + 1 + 1 + 1) (x0 :: r0) f0 (aCells (kn : Int) (fun _ => 0) (fun _ => []) (.slice none 0 0)) := by
        obtain ⟨b1, b2, b3, hb⟩ := HM5.out
        refine ⟨⟨by omega, by omega, by omega⟩, ⟨w.heap.size + 1, 0, r0.length + 1, ((b3.alloc _).alloc _).alloc _, ⟨by simp, by simp; omega, fun j x hx => ?_⟩, by omega, by simp⟩, ((blk_at wr 4 _ _ hsz).alloc _).alloc _, (blk_at (wr.alloc _) 36 _ _ (by simp [hsz])).alloc _, blk_at ((wr.alloc _).alloc _) 24 _ _ (by simp [hsz])⟩
        rw [(((b2.alloc _).alloc _).alloc _).cell, Nat.zero_add]
        rw [List.getElem?_toArray, List.getElem?_map, hx]; rfl
      have hB6 : Below w.heap.size w (((wr.alloc (.cells #[.bool f0] 4)).alloc (.cells #[.func (.func 30) #[] #[.pointer (some ⟨w.heap.size + 1 + 1, 0, none⟩), .pointer (some ⟨w.heap.size + 1 + 1 + 1 + 1 + 1, 0, none⟩)]] 36)).alloc (.cells (aCells (kn : Int) (fun _ => 0) (fun _ => []) (.slice none 0 0)) 24)) :=
        ((HM5.out.2.2.2.alloc (by omega) _).alloc (by simp; omega) _).alloc (by simp; omega) _
      have hZ6 := (((HM5.out.1.alloc (.cells #[.bool f0] 4)).alloc (.cells #[.func (.func 30) #[] #[.pointer (some ⟨w.heap.size + 1 + 1, 0, none⟩), .pointer (some ⟨w.heap.size + 1 + 1 + 1 + 1 + 1, 0, none⟩)]] 36)).alloc (.cells (aCells (kn : Int) (fun _ => 0) (fun _ => []) (.slice none 0 0)) 24))
      have HS6 := Lib.hid (And.intro hS (And.intro hB6 hZ6))
      clear hS hB6 hZ6 x1 x2 hlk'
      refine (parts_run (w.heap.size + 1 + 1 + 1 + 1 + 1 + 1 + 1) (kn : Int) _ (HS6.out.1.a.cell 0)).mono ?_
      rintro e w6 ⟨v6, rfl, hp6, hb6⟩
      obtain ⟨A6, rfl⟩ := hp6.len
      have P6 := Lib.hid (hp6.mono (B' := (w.heap.size + 1 + 1 + 1 + 1 + 1 + 1 + 1) + 1) (by simp; omega))
      have S6 := Lib.hid (HS6.out.1.below hb6)
      have B6 := Lib.hid (HS6.out.2.1.trans (hb6.mono (by simp; omega)))
      have Z6 := Lib.hid (HS6.out.2.2.below hb6)
      have hz6 : (w.heap.size + 1 + 1 + 1 + 1 + 1 + 1 + 1) + 1 ≤ w6.heap.size := by have := hb6.size; simp at this; omega
      have hSh : Short (x0 :: r0) := ⟨by simp; omega, fun x hx => Nat.le_trans (HSW.out.2.2.2.1 x hx) (by omega)⟩
      have HSh := Lib.hid hSh
      have hnl := places_len (kn : Int)
      have hnl' : ((places (kn : Int)).length : Int) ≤ 4 := by omega
      clear hp6 hb6 hSh hsz hsz'
      go_wp2_with fail
      go_loopg [47] (places (kn : Int)).length (fun gk ii wr => ∃ (j : Nat) (N : Nat → Int) (ws : List Bs) (f : Bool), j ≤ (places (kn : Int)).length ∧ gk = (places (kn : Int)).length - j ∧ ii = .int .i64 (j : Int) ∧
        St wr (w.heap.size + 1 + 1) (w.heap.size + 1 + 1 + 1 + 1 + 1) (w.heap.size + 1 + 1 + 1 + 1 + 1 + 1) (w.heap.size + 1 + 1 + 1 + 1 + 1 + 1 + 1) ws f (aCells (kn : Int) N (fun _ => []) (.slice none 0 0)) ∧ I1 s kn ((places (kn : Int)).drop j) N ws f ∧ Short ws ∧ Ptrs wr ((w.heap.size + 1 + 1 + 1 + 1 + 1 + 1 + 1) + 1) 52 (w.heap.size + 1 + 1 + 1 + 1 + 1 + 1 + 1) (places (kn : Int)) (.slice A6 (places (kn : Int)).length (places (kn : Int)).length) ∧
        Below w.heap.size w wr ∧ (w.heap.size + 1 + 1 + 1 + 1 + 1 + 1 + 1) + 1 ≤ wr.heap.size ∧ Blk wr w.heap.size 24 (aCells 0 (fun _ => 0) (fun _ => []) (.slice none 0 0)))
      case atStart => exact ⟨0, fun _ => 0, x0 :: r0, f0, Nat.zero_le _, by omega, rfl, S6.out, HI.out, HSh.out, P6.out, B6.out, hz6, Z6.out⟩
      case round =>
        obtain ⟨j, N, ws, f, hjn, rfl, rfl, hS, hI, hSh, q, hb, hz, hZ⟩ := hrel
        by_cases hlt : j < (places (kn : Int)).length
        · obtain ⟨i, hi⟩ : ∃ i, (places (kn : Int))[j]? = some i := ⟨_, List.getElem?_eq_getElem hlt⟩
          have hlt' : (j : Int) < ((places (kn : Int)).length : Int) := by omega
          have hpi := places_in (List.mem_of_getElem? hi)
          obtain ⟨g1, e1, hg1, _, y1⟩ := q.get hi
          injection e1 with e1 _ _
          subst e1
          have hdr : (places (kn : Int)).drop j = i :: (places (kn : Int)).drop (j + 1) := by
            rw [List.drop_eq_getElem_cons hlt]; rw [List.getElem?_eq_getElem hlt] at hi; injection hi with hi; rw [hi]
          rw [hdr] at hI
          have hI' := hI.step
          have T := Lib.hid (take_run wr (w.heap.size + 1 + 1) (w.heap.size + 1 + 1 + 1 + 1 + 1) (w.heap.size + 1 + 1 + 1 + 1 + 1 + 1) (w.heap.size + 1 + 1 + 1 + 1 + 1 + 1 + 1) ws f _ hS hSh)
          have HD := Lib.hid (And.intro hpi (And.intro hI' (And.intro hSh.next.2 (And.intro q (And.intro hb (And.intro hz hZ))))))
          clear hi hpi hdr hI hI' hSh q hb hz hZ hS hlt
          generalize takeN ws = n at T HD
          generalize takeF ws f = f' at T HD
          go_wp2_with fail
          refine T.out.mono ?_
          rintro e w7 ⟨rfl, hS7, hk7⟩
          obtain ⟨hpi, hI', hSh', q, hb, hz, hZ⟩ := HD.out
          have z1 := (hS7.a.cell i).trans (acells_num _ _ _ _ hpi)
          have z2 := hS7.a.frozen i
          have hsA := hS7.setA i (.int .i64 n)
          rw [acells_setN _ _ _ _ hpi] at hsA
          have R := Lib.hid (And.intro hsA (And.intro ((q.keep hk7 (fun g hg _ => two_other (by omega) (by omega))).setCell (i := i) hS7.a (by decide) (.int .i64 n)) (And.intro ((below_keep hb hk7 (fun x hx => two_other (by omega) (by omega)) (by omega)).setCell (p := ⟨(w.heap.size + 1 + 1 + 1 + 1 + 1 + 1 + 1), i, none⟩) (by simp; omega) (.int .i64 n)) (And.intro (Nat.le_trans hz hk7.size) ((hk7.blk hZ (two_other (by omega) (by omega))).far (p := ⟨(w.heap.size + 1 + 1 + 1 + 1 + 1 + 1 + 1), i, none⟩) (by simp; omega) (.int .i64 n))))))
          have HI' := Lib.hid (And.intro hI' hSh')
          clear hsA hk7 q hb hz hZ hS7 hI' hSh' hpi
          go_wp2_with fail
          go_roundg ((places (kn : Int)).length - (j + 1))
          case measure => omega
          case rel =>
            obtain ⟨r1, r2, r3, r4, r5⟩ := R.out
            exact ⟨j + 1, _, _, _, by omega, rfl, by go_num, r1, HI'.out.1, HI'.out.2, r2, r3, by simpa using r4, r5⟩
        · obtain rfl : (places (kn : Int)).length = j := by omega
          rw [List.drop_length] at hI
          have hI2 : I2 s kn N (txts (kn : Int)) (fun _ => []) ws f := hI
          have HD2 := Lib.hid (And.intro hI2 (And.intro hSh (And.intro hb (And.intro hz hZ))))
          have HS2 := Lib.hid hS
          clear hI hI2 hSh q hb hz hZ hS hlt
          go_wp2_with fail
          refine (texts_run (w.heap.size + 1 + 1 + 1 + 1 + 1 + 1 + 1) (kn : Int) _ (HS2.out.a.cell 0)).mono ?_
          rintro e w8 ⟨v8, rfl, hp8, hb8⟩
          obtain ⟨A8, rfl⟩ := hp8.len
          obtain ⟨hI2, hSh, hb, hz, hZ⟩ := HD2.out
          have P8 := Lib.hid (hp8.mono (B' := (w.heap.size + 1 + 1 + 1 + 1 + 1 + 1 + 1) + 1) hz)
          have S8 := Lib.hid (HS2.out.below hb8)
          have B8 := Lib.hid (hb.trans (hb8.mono (by omega)))
          have Z8 := Lib.hid (hZ.below hb8)
          have hz8 : (w.heap.size + 1 + 1 + 1 + 1 + 1 + 1 + 1) + 1 ≤ w8.heap.size := Nat.le_trans hz hb8.size
          have HI2 := Lib.hid (And.intro hI2 hSh)
          have htl := txts_len (kn : Int)
          have htl' : ((txts (kn : Int)).length : Int) ≤ 2 := by omega
          clear hp8 hb8 hI2 hSh hb hz hZ
          go_wp2_with fail
          go_loopg [58] (txts (kn : Int)).length (fun gk ii wr => ∃ (j : Nat) (T : Nat → Bs) (ws : List Bs) (f : Bool), j ≤ (txts (kn : Int)).length ∧ gk = (txts (kn : Int)).length - j ∧ ii = .int .i64 (j : Int) ∧
            St wr (w.heap.size + 1 + 1) (w.heap.size + 1 + 1 + 1 + 1 + 1) (w.heap.size + 1 + 1 + 1 + 1 + 1 + 1) (w.heap.size + 1 + 1 + 1 + 1 + 1 + 1 + 1) ws f (aCells (kn : Int) N T (.slice none 0 0)) ∧ I2 s kn N ((txts (kn : Int)).drop j) T ws f ∧ Short ws ∧ Ptrs wr ((w.heap.size + 1 + 1 + 1 + 1 + 1 + 1 + 1) + 1) 56 (w.heap.size + 1 + 1 + 1 + 1 + 1 + 1 + 1) (txts (kn : Int)) (.slice A8 (txts (kn : Int)).length (txts (kn : Int)).length) ∧
            Below w.heap.size w wr ∧ (w.heap.size + 1 + 1 + 1 + 1 + 1 + 1 + 1) + 1 ≤ wr.heap.size ∧ Blk wr w.heap.size 24 (aCells 0 (fun _ => 0) (fun _ => []) (.slice none 0 0)))
          case atStart => exact ⟨0, fun _ => [], ws, f, Nat.zero_le _, by omega, rfl, S8.out, HI2.out.1, HI2.out.2, P8.out, B8.out, hz8, Z8.out⟩
          case round =>
            obtain ⟨j, T, ws, f, hjn, rfl, rfl, hS, hI, hSh, q, hb, hz, hZ⟩ := hrel
            by_cases hlt : j < (txts (kn : Int)).length
            · obtain ⟨i, hi⟩ : ∃ i, (txts (kn : Int))[j]? = some i := ⟨_, List.getElem?_eq_getElem hlt⟩
              have hlt' : (j : Int) < ((txts (kn : Int)).length : Int) := by omega
              have hpi := txts_in (List.mem_of_getElem? hi)
              obtain ⟨g1, e1, hg1, _, y1⟩ := q.get hi
              injection e1 with e1 _ _
              subst e1
              have hdr : (txts (kn : Int)).drop j = i :: (txts (kn : Int)).drop (j + 1) := by
                rw [List.drop_eq_getElem_cons hlt]; rw [List.getElem?_eq_getElem hlt] at hi; injection hi with hi; rw [hi]
              rw [hdr] at hI
              have hI' := fun v hv => hI.step (v := v) hv
              have x1 := hS.n.cell 0
              simp at x1
              have NX := Lib.hid (next_run wr (w.heap.size + 1 + 1) (w.heap.size + 1 + 1 + 1 + 1 + 1) (w.heap.size + 1 + 1 + 1 + 1 + 1 + 1) (w.heap.size + 1 + 1 + 1 + 1 + 1 + 1 + 1) ws f _ hS)
              have BY := Lib.hid (fun w => bytes_run (nextW ws) hSh.next.1 w)
              have HD := Lib.hid (And.intro hpi (And.intro hI' (And.intro hSh.next.2 (And.intro q (And.intro hb (And.intro hz hZ))))))
              clear hi hpi hdr hI hI' hSh q hb hz hZ hS hlt
              generalize nextW ws = y at NX BY HD
              generalize nextF ws f = f1 at NX HD
              generalize (txtB y).isSome = ok at BY HD
              go_wp2_with fail
              refine NX.out.mono ?_
              rintro e w9 ⟨rfl, hS9, hk9⟩
              have S9 := Lib.hid hS9
              have K9 := Lib.hid hk9
              clear hS9 hk9
              go_wp2_with fail
              refine (BY.out _).mono ?_
              rintro e w10 ⟨⟨v, rfl, hv⟩, hb10⟩
              obtain ⟨hpi, hI', hSh', q, hb, hz, hZ⟩ := HD.out
              have hS10 := S9.out.below hb10
              have q10 := (q.keep K9.out (fun g hg _ => two_other (by omega) (by omega))).of_below hb10
              have hb' := (below_keep hb K9.out (fun x hx => two_other (by omega) (by omega)) (by omega)).trans (hb10.mono (by have := K9.out.size; omega))
              have hz10 := Nat.le_trans (Nat.le_trans hz K9.out.size) hb10.size
              have hZ10 := (K9.out.blk hZ (two_other (by omega) (by omega))).below hb10
              have z1 := (hS10.a.cell i).trans (acells_txt _ _ _ _ hpi)
              have z2 := hS10.a.frozen i
              have z3 := hS10.f.cell 0
              have z4 := hS10.f.frozen 0
              simp at z3
              have hsA := fun b => (hS10.setA i (.string ⟨v.toArray⟩)).setF b
              rw [acells_setT _ _ _ _ hpi] at hsA
              have R := Lib.hid (fun b => And.intro (hsA b) (And.intro (q10.setCell (i := i) hS10.a (by decide) (.string ⟨v.toArray⟩)) (And.intro hb' (And.intro hz10 hZ10))))
              have HI' := Lib.hid (And.intro (hI' v hv) hSh')
              clear hsA q10 q hb hb' hz hz10 hZ hZ10 hS10 hI' hSh' hpi hv
              go_wp2_with fail
              cases f1
              · go_region
                go_wp2_with fail
                go_roundg ((txts (kn : Int)).length - (j + 1))
                case measure => omega
                case rel =>
                  obtain ⟨r1, r2, r3, r4, r5⟩ := R.out (false)
                  have r2' := r2.setCell2 (i := 0) (u := .bool (false)) (F := (w.heap.size + 1 + 1 + 1 + 1 + 1)) (by intro e; omega)
                  exact ⟨j + 1, _, _, _, by omega, rfl, by go_num, r1.drew, HI'.out.1, HI'.out.2, r2', Below.drew ((r3.setCell (p := ⟨(w.heap.size + 1 + 1 + 1 + 1 + 1 + 1 + 1), i, none⟩) (by simp; omega) (.string ⟨v.toArray⟩)).setCell (p := ⟨(w.heap.size + 1 + 1 + 1 + 1 + 1), 0, none⟩) (by simp; omega) (.bool (false))), by simpa using r4, (r5.far (p := ⟨(w.heap.size + 1 + 1 + 1 + 1 + 1 + 1 + 1), i, none⟩) (by simp; omega) (.string ⟨v.toArray⟩)).far (p := ⟨(w.heap.size + 1 + 1 + 1 + 1 + 1), 0, none⟩) (by simp; omega) (.bool (false))⟩
              · go_region
                go_wp2_with fail
                go_roundg ((txts (kn : Int)).length - (j + 1))
                case measure => omega
                case rel =>
                  obtain ⟨r1, r2, r3, r4, r5⟩ := R.out (ok)
                  have r2' := r2.setCell2 (i := 0) (u := .bool (ok)) (F := (w.heap.size + 1 + 1 + 1 + 1 + 1)) (by intro e; omega)
                  exact ⟨j + 1, _, _, _, by omega, rfl, by go_num, r1.drew, HI'.out.1, HI'.out.2, r2', Below.drew ((r3.setCell (p := ⟨(w.heap.size + 1 + 1 + 1 + 1 + 1 + 1 + 1), i, none⟩) (by simp; omega) (.string ⟨v.toArray⟩)).setCell (p := ⟨(w.heap.size + 1 + 1 + 1 + 1 + 1), 0, none⟩) (by simp; omega) (.bool (ok))), by simpa using r4, (r5.far (p := ⟨(w.heap.size + 1 + 1 + 1 + 1 + 1 + 1 + 1), i, none⟩) (by simp; omega) (.string ⟨v.toArray⟩)).far (p := ⟨(w.heap.size + 1 + 1 + 1 + 1 + 1), 0, none⟩) (by simp; omega) (.bool (ok))⟩
            · obtain rfl : (txts (kn : Int)).length = j := by omega
              rw [List.drop_length] at hI
              have hI3 : I3 s kn N T [] ws f := hI
              have hwl : ws.length ≤ 900001 := hSh.1
              have HD3 := Lib.hid (And.intro hI3 (And.intro hSh (And.intro hb (And.intro hz (And.intro hZ hwl)))))
              have HS3 := Lib.hid hS
              obtain ⟨ti, hi3, hz0, hz1, hz2⟩ := info_parts Tryd.info3
              clear hI hI3 hSh q hb hz hZ hS hlt hwl
              go_wp2_with fail
              go_loopg [76] ws.length (fun gk _u wr => ∃ (ks : List Int) (ws : List Bs) (f : Bool) (kv : Value), gk = ws.length ∧ St wr (w.heap.size + 1 + 1) (w.heap.size + 1 + 1 + 1 + 1 + 1) (w.heap.size + 1 + 1 + 1 + 1 + 1 + 1) (w.heap.size + 1 + 1 + 1 + 1 + 1 + 1 + 1) ws f (aCells (kn : Int) N T kv) ∧ I3 s kn N T ks ws f ∧ Short ws ∧ Owns wr ((w.heap.size + 1 + 1 + 1 + 1 + 1 + 1 + 1) + 1) 3 1 kv ks.length (ks.map (Value.int .i64)) ∧
                (kn ≠ 12 → ks = []) ∧ ks.length + ws.length ≤ 900001 ∧ Below w.heap.size w wr ∧ (w.heap.size + 1 + 1 + 1 + 1 + 1 + 1 + 1) + 1 ≤ wr.heap.size ∧ Blk wr w.heap.size 24 (aCells 0 (fun _ => 0) (fun _ => []) (.slice none 0 0)))
              case atStart => exact ⟨[], ws, f, .slice none 0 0, rfl, HS3.out, HD3.out.1, HD3.out.2.1, Owns.nil _ _ _ _, fun _ => rfl, by simpa using HD3.out.2.2.2.2.2, HD3.out.2.2.1, HD3.out.2.2.2.1, HD3.out.2.2.2.2.1⟩
              case round =>
                obtain ⟨ks, ws, f, kv, rfl, hS, hI, hSh, ho, h12, hln, hb, hz, hZ⟩ := hrel
                have y0 := hS.a.cell 0
                have y1 := hS.f.cell 0
                obtain ⟨V, cap, y2⟩ := hS.len
                simp at y1
                have y0' : wr.cell? ⟨(w.heap.size + 1 + 1 + 1 + 1 + 1 + 1 + 1), 0, none⟩ = some (.int .i64 (kn : Int)) := y0
                have hws0 : 0 < ws.length := by obtain ⟨_, _, _, _, _, _, h⟩ := hS.l; exact h
                have HD := Lib.hid (And.intro hI (And.intro hSh (And.intro ho (And.intro h12 (And.intro hln (And.intro hb (And.intro hz hZ)))))))
                have HS := Lib.hid hS
                by_cases hcont : kn = 12 ∧ f = true ∧ 1 < ws.length
                · obtain ⟨rfl, rfl, hgt⟩ := hcont
                  have hgt' : (1 : Int) < (ws.length : Int) := by omega
                  have T1 := Lib.hid (take_run wr.drew (w.heap.size + 1 + 1) (w.heap.size + 1 + 1 + 1 + 1 + 1) (w.heap.size + 1 + 1 + 1 + 1 + 1 + 1) (w.heap.size + 1 + 1 + 1 + 1 + 1 + 1 + 1) ws true _ hS.drew hSh)
                  have z8 : wr.cell? ⟨(w.heap.size + 1 + 1 + 1 + 1 + 1 + 1 + 1), 8, none⟩ = some kv := hS.a.cell 8
                  clear y0 hS hI hSh ho h12 hln hb hz hZ
                  generalize hn : takeN ws = n at T1
                  generalize hf' : takeF ws true = f' at T1
                  have HN := Lib.hid (And.intro hn hf')
                  clear hn hf'
                  go_wp2_with fail
                  have O := Lib.hid (fun w7 (hk : Keep (Two (w.heap.size + 1 + 1) (w.heap.size + 1 + 1 + 1 + 1 + 1)) wr.drew w7) => (HD.out.2.2.1.drew).keep hk (fun g hg => by
                    obtain ⟨_, _, cur, hc⟩ := HD.out.2.2.1.block hg
                    obtain ⟨_, _, _, hL, _⟩ := HS.out.l
                    exact two_other (Blk.ne_ (show Blk wr g 3 cur from hc) hL (by decide)) (Blk.ne_ (show Blk wr g 3 cur from hc) HS.out.f (by decide))))
                  have hks : ks.length ≤ 900001 := by have := HD.out.2.2.2.2.1; omega
                  go_region_law (first | (have hown1 := (O.out _ hk7).alloc (.cells #[.int .i64 n] 3); have hblk1 := heap_alloc_new w7 (.cells #[.int .i64 n] 3); have hz7 := hk7.size; have hzz := HD.out.2.2.2.2.2.2.1; refine step_append_owns _ (by rfl) _ _ 22 22 (by rfl) ((w.heap.size + 1 + 1 + 1 + 1 + 1 + 1 + 1) + 1) 3 ti (.int .i64 0) 1 8 Tryd.underlying22 hi3 hz0 hz1 hz2 rfl (by decide) _ _ _ (by rfl) hown1 _ 1 [.int .i64 n] (by rfl) (Src.ofSlice _ Tryd.underlying22 _ 1 1 _ rfl (World.news_of_block hblk1) (by simp [Value.oneCell'])) (by unfold maxLen; omega) (by omega) (by simp at hz7 ⊢; omega) ?_; intro v' w8 hown8 hgr8 hblk8 _; obtain ⟨A', c', rfl⟩ := hown8.len; have b8 := (hS7.a.alloc (.cells #[.int .i64 n] 3)).of_block (hgr8.block _ (hS7.a.alloc _).lt (by intro e; obtain ⟨_, _, cur, hc⟩ := hown1.block e.symm; exact Blk.ne_ (show Blk _ _ 3 cur from hc) (hS7.a.alloc (.cells #[.int .i64 n] 3)) (by decide) rfl)); have z9 : w8.cell? ⟨(w.heap.size + 1 + 1 + 1 + 1 + 1 + 1 + 1), 8, none⟩ = some kv := b8.cell 8; have z10 := b8.frozen 8) | (go_simp; go_at_call 31; refine T1.out.mono ?_; rintro e w7 ⟨rfl, hS7, hk7⟩; have z7 : w7.cell? ⟨(w.heap.size + 1 + 1 + 1 + 1 + 1 + 1 + 1), 8, none⟩ = some kv := hS7.a.cell 8; have z7' : (w7.alloc (.cells #[.int .i64 n] 3)).cell? ⟨(w.heap.size + 1 + 1 + 1 + 1 + 1 + 1 + 1), 8, none⟩ = some kv := (hS7.a.alloc _).cell 8))
                  all_goals
                    have HO8 := Lib.hid (hown8.setCell (p := ⟨(w.heap.size + 1 + 1 + 1 + 1 + 1 + 1 + 1), 8, none⟩) (by intro e; have := (hown8.block e).1; simp at this; omega) (.slice A' (ks.length + 1) c'))
                    have k8 : Keep (fun b => kv.ownBlock = some b) w7 w8 := ((Keep.refl (fun b => kv.ownBlock = some b) w7).alloc _).grown hgr8 (fun k hk _ => hk)
                    have hkb : ∀ b, b ≤ (w.heap.size + 1 + 1 + 1 + 1 + 1 + 1 + 1) → ¬ kv.ownBlock = some b := fun b hb e => by have := (HD.out.2.2.1.block e).1; omega
                    have HS8 := Lib.hid ((hS7.keep k8 hkb).setA 8 (.slice A' (ks.length + 1) c'))
                    have hbW := below_keep (B := w.heap.size) (w := wr) HD.out.2.2.2.2.2.1 (show Keep (Two (w.heap.size + 1 + 1) (w.heap.size + 1 + 1 + 1 + 1 + 1)) wr w7 from ⟨hk7.os, hk7.tape, hk7.output, hk7.size, hk7.block⟩) (fun x hx => two_other (by omega) (by omega)) (by have := HD.out.2.2.2.2.2.2.1; omega)
                    have hz7' : (w.heap.size + 1 + 1 + 1 + 1 + 1 + 1 + 1) + 1 ≤ w7.heap.size := Nat.le_trans HD.out.2.2.2.2.2.2.1 hk7.size
                    have HB8 := Lib.hid ((below_keep hbW k8 (fun x hx => hkb x (by omega)) (by omega)).setCell (p := ⟨(w.heap.size + 1 + 1 + 1 + 1 + 1 + 1 + 1), 8, none⟩) (by simp; omega) (.slice A' (ks.length + 1) c'))
                    have HZ8 := Lib.hid (((((show Keep (Two (w.heap.size + 1 + 1) (w.heap.size + 1 + 1 + 1 + 1 + 1)) wr w7 from ⟨hk7.os, hk7.tape, hk7.output, hk7.size, hk7.block⟩).blk HD.out.2.2.2.2.2.2.2 (two_other (by omega) (by omega))).keepF k8 (hkb _ (by omega))).far (p := ⟨(w.heap.size + 1 + 1 + 1 + 1 + 1 + 1 + 1), 8, none⟩) (by simp; omega) (.slice A' (ks.length + 1) c')))
                    have hz8' : (w.heap.size + 1 + 1 + 1 + 1 + 1 + 1 + 1) + 1 ≤ w8.heap.size := Nat.le_trans hz7' k8.size
                    have HI3 := Lib.hid (HD.out.1.step hgt)
                    clear hown8 hgr8 hblk8 hown1 hblk1 hz7 hzz b8 z9 z10 z7 z7' hS7 hk7 k8 hbW
                    go_wp2_with fail
                    go_roundg (nextL ws).length
                    case measure => have := next_len hgt; omega
                    case rel =>
                      refine ⟨ks ++ [n], nextL ws, f', .slice A' (ks.length + 1) c', rfl, HS8.out, by rw [← HN.out.1, ← HN.out.2]; exact HI3.out, HD.out.2.1.next.2, ?_, fun h => absurd rfl h, ?_, HB8.out, by simpa using hz8', HZ8.out⟩
                      · rw [List.length_append, List.map_append]; exact HO8.out
                      · have := next_len hgt
                        have := HD.out.2.2.2.2.1
                        simp; omega
                · have hdone := HD.out.1.done hws0 (fun hk hf hgt => hcont ⟨hk, hf, hgt⟩)
                  have HDone := Lib.hid hdone
                  have HC := Lib.hid hcont
                  have HBr := Lib.hid hb
                  have HZr := Lib.hid (show Blk wr w.heap.size 24 zCells from hZ)
                  have hIn : Ints wr ((w.heap.size + 1 + 1 + 1 + 1 + 1 + 1 + 1) + 1) kv ks := Ints.of_owns ho
                  have HIn := Lib.hid hIn
                  have RR := Lib.hid (right_run (kn : Int) N T kv ks wr (hIn.mono (Nat.zero_le _)) (by omega))
                  obtain ⟨A3, c3, hkv⟩ := ho.len
                  have hO1 : (aCells (kn : Int) N T kv).all (·.oneCell') = true := by rw [hkv]; exact acells_one _ _ _ _ _ _
                  have y8 := hS.a
                  clear hdone hS hI hSh ho h12 hln hb hZ y0 hIn hcont hkv
                  generalize hOe : aCells (kn : Int) N T kv = O at RR hO1 y8
                  have OE := Lib.hid hOe
                  have OS := Lib.hid (show (Tryd.prog.info? 24).map (·.size) = some O.size by rw [← hOe]; exact Tryd.size24)
                  have OS2 := Lib.hid (And.intro (show zCells.size = O.size by rw [← hOe]; rfl) hO1)
                  have OB := Lib.hid y8
                  clear hOe hO1 y8
                  cases f
                  · have HN := Lib.hid (show parseO s = none by rw [HDone.out, if_neg (by simp)])
                    have HBB := HBr
                    have ZB := HZr
                    by_cases hk12 : kn = 12
                    · have hk12v : (kn : Int) = 12 := by omega
                      clear hk12
                      go_wp2_with (refine wpList_store_row rfl 24 _ _ rfl w.heap.size zCells rfl rfl 24 zCells ZB.out Tryd.size24 rfl zCells_one ?_)
                      refine bodyPost_ret (results_row_tmp rfl _ _ w.heap.size 24 zCells (0, 0) _ rfl (setRow_heap _ _ zCells zCells 24 (0, 0) ZB.out) Tryd.underlying24 rfl Tryd.size24) rfl ?_
                      exact ⟨⟨0, fun _ => 0, fun _ => [], [], .slice none 0 0, 30, rfl, Ints.nil _ _, .inr ⟨rfl, HN.out, rfl, rfl, rfl, rfl⟩⟩, keep_row HBB.out (Nat.le_refl _) _⟩
                    · have hk12' : ¬ (kn : Int) = 12 := by omega
                      clear hk12
                      go_wp2_with (refine wpList_store_row rfl 24 _ _ rfl w.heap.size zCells rfl rfl 24 zCells ZB.out Tryd.size24 rfl zCells_one ?_)
                      refine bodyPost_ret (results_row_tmp rfl _ _ w.heap.size 24 zCells (0, 0) _ rfl (setRow_heap _ _ zCells zCells 24 (0, 0) ZB.out) Tryd.underlying24 rfl Tryd.size24) rfl ?_
                      exact ⟨⟨0, fun _ => 0, fun _ => [], [], .slice none 0 0, 30, rfl, Ints.nil _ _, .inr ⟨rfl, HN.out, rfl, rfl, rfl, rfl⟩⟩, keep_row HBB.out (Nat.le_refl _) _⟩
                  · by_cases hgt : 1 < ws.length
                    · have HN := Lib.hid (show parseO s = none by rw [HDone.out, if_neg (fun h => h.2.1 hgt)])
                      have hgt' : (1 : Int) < (ws.length : Int) := by omega
                      have HBB := HBr
                      have ZB := HZr
                      by_cases hk12 : kn = 12
                      · exfalso; exact HC.out ⟨hk12, rfl, hgt⟩
                      · have hk12' : ¬ (kn : Int) = 12 := by omega
                        clear hk12
                        go_wp2_with (refine wpList_store_row rfl 24 _ _ rfl w.heap.size zCells rfl rfl 24 zCells ZB.out Tryd.size24 rfl zCells_one ?_)
                        refine bodyPost_ret (results_row_tmp rfl _ _ w.heap.size 24 zCells (0, 0) _ rfl (setRow_heap _ _ zCells zCells 24 (0, 0) ZB.out) Tryd.underlying24 rfl Tryd.size24) rfl ?_
                        exact ⟨⟨0, fun _ => 0, fun _ => [], [], .slice none 0 0, 30, rfl, Ints.nil _ _, .inr ⟨rfl, HN.out, rfl, rfl, rfl, rfl⟩⟩, keep_row HBB.out (Nat.le_refl _) _⟩
                    · have hgt' : ¬ (1 : Int) < (ws.length : Int) := by omega
                      by_cases hk12 : kn = 12
                      · have hk12v : (kn : Int) = 12 := by omega
                        clear hk12
                        go_wp2_with (refine wpList_load_row_w 24 _ rfl ?_ (w.heap.size + 1 + 1 + 1 + 1 + 1 + 1 + 1) rfl 24 O (0, 0) _ OB.out Tryd.underlying24 rfl OS.out ?_; rfl)
                        refine (RR.out).mono ?_
                        rintro e w9 ⟨rfl, hb9⟩
                        have HBB := Lib.hid (HBr.out.trans (hb9.mono (by omega)))
                        have ZB := Lib.hid (HZr.out.below hb9)
                        have OB9 := Lib.hid (OB.out.below hb9)
                        have HI9 := Lib.hid (HIn.out.below hb9)
                        have z8s : w.heap.size < w9.heap.size := by have := hb9.size; omega
                        clear hb9
                        cases hr : rightB (kn : Int) N T ks
                        · have HN := Lib.hid (show parseO s = none by rw [HDone.out, if_neg (by simp [hr])])
                          clear hr
                          go_wp2_with (refine wpList_store_row rfl 24 _ _ rfl w.heap.size zCells rfl rfl 24 zCells ZB.out Tryd.size24 rfl zCells_one ?_)
                          refine bodyPost_ret (results_row_tmp rfl _ _ w.heap.size 24 zCells (0, 0) _ rfl (setRow_heap _ _ zCells zCells 24 (0, 0) ZB.out) Tryd.underlying24 rfl Tryd.size24) rfl ?_
                          exact ⟨⟨0, fun _ => 0, fun _ => [], [], .slice none 0 0, 30, rfl, Ints.nil _ _, .inr ⟨rfl, HN.out, rfl, rfl, rfl, rfl⟩⟩, keep_row HBB.out (Nat.le_refl _) _⟩
                        · have HN := Lib.hid (show parseO s = some (kn, N, T, ks) by rw [HDone.out, if_pos (by first | exact ⟨rfl, hgt, hr⟩ | exact ⟨trivial, hgt, hr⟩)])
                          clear hr
                          go_wp2_with (first | (refine wpList_load_row rfl 24 _ rfl (w.heap.size + 1 + 1 + 1 + 1 + 1 + 1 + 1) rfl 24 O (0, 0) _ OB9.out Tryd.underlying24 rfl OS.out ?_) | (refine wpList_store_row rfl 24 _ _ rfl w.heap.size O rfl rfl 24 zCells ZB.out OS.out OS2.out.1 OS2.out.2 ?_))
                          refine bodyPost_ret (results_row_tmp rfl _ _ w.heap.size 24 O (0, 0) _ rfl (setRow_heap _ _ zCells O 24 (0, 0) ZB.out) Tryd.underlying24 rfl OS.out) rfl ?_
                          refine ⟨⟨(kn : Int), N, T, ks, kv, 0, by rw [← OE.out]; rfl, ?_, .inl ⟨rfl, by omega, by rw [HN.out]; simp⟩⟩, keep_row HBB.out (Nat.le_refl _) _⟩
                          exact Ints.of_block HI9.out (by rw [setRow_size]; exact Nat.le_refl _) (fun g hg _ => setRow_other _ _ _ _ (by omega)) |>.mono (by omega)
                      · have hk12' : ¬ (kn : Int) = 12 := by omega
                        clear hk12
                        go_wp2_with (refine wpList_load_row_w 24 _ rfl ?_ (w.heap.size + 1 + 1 + 1 + 1 + 1 + 1 + 1) rfl 24 O (0, 0) _ OB.out Tryd.underlying24 rfl OS.out ?_; rfl)
                        refine (RR.out).mono ?_
                        rintro e w9 ⟨rfl, hb9⟩
                        have HBB := Lib.hid (HBr.out.trans (hb9.mono (by omega)))
                        have ZB := Lib.hid (HZr.out.below hb9)
                        have OB9 := Lib.hid (OB.out.below hb9)
                        have HI9 := Lib.hid (HIn.out.below hb9)
                        have z8s : w.heap.size < w9.heap.size := by have := hb9.size; omega
                        clear hb9
                        cases hr : rightB (kn : Int) N T ks
                        · have HN := Lib.hid (show parseO s = none by rw [HDone.out, if_neg (by simp [hr])])
                          clear hr
                          go_wp2_with (refine wpList_store_row rfl 24 _ _ rfl w.heap.size zCells rfl rfl 24 zCells ZB.out Tryd.size24 rfl zCells_one ?_)
                          refine bodyPost_ret (results_row_tmp rfl _ _ w.heap.size 24 zCells (0, 0) _ rfl (setRow_heap _ _ zCells zCells 24 (0, 0) ZB.out) Tryd.underlying24 rfl Tryd.size24) rfl ?_
                          exact ⟨⟨0, fun _ => 0, fun _ => [], [], .slice none 0 0, 30, rfl, Ints.nil _ _, .inr ⟨rfl, HN.out, rfl, rfl, rfl, rfl⟩⟩, keep_row HBB.out (Nat.le_refl _) _⟩
                        · have HN := Lib.hid (show parseO s = some (kn, N, T, ks) by rw [HDone.out, if_pos (by first | exact ⟨rfl, hgt, hr⟩ | exact ⟨trivial, hgt, hr⟩)])
                          clear hr
                          go_wp2_with (first | (refine wpList_load_row rfl 24 _ rfl (w.heap.size + 1 + 1 + 1 + 1 + 1 + 1 + 1) rfl 24 O (0, 0) _ OB9.out Tryd.underlying24 rfl OS.out ?_) | (refine wpList_store_row rfl 24 _ _ rfl w.heap.size O rfl rfl 24 zCells ZB.out OS.out OS2.out.1 OS2.out.2 ?_))
                          refine bodyPost_ret (results_row_tmp rfl _ _ w.heap.size 24 O (0, 0) _ rfl (setRow_heap _ _ zCells O 24 (0, 0) ZB.out) Tryd.underlying24 rfl OS.out) rfl ?_
                          refine ⟨⟨(kn : Int), N, T, ks, kv, 0, by rw [← OE.out]; rfl, ?_, .inl ⟨rfl, by omega, by rw [HN.out]; simp⟩⟩, keep_row HBB.out (Nat.le_refl _) _⟩
                          exact Ints.of_block HI9.out (by rw [setRow_size]; exact Nat.le_refl _) (fun g hg _ => setRow_other _ _ _ _ (by omega)) |>.mono (by omega)
end Go.Proofs.YtmhhnmbedlhflaaDoor
