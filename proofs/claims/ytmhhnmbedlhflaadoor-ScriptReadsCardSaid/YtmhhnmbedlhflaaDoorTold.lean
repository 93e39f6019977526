/- What came of an act, told. -/
import Derived.Test.YtmhhnmbedlhflaaDoorText
import Derived.Test.YtmhhnmbedlhflaaDoorIds
import Derived.Deep.DeepCutAuto
import Derived.Deep.MidRow
import Derived.Stop.BytesEq
namespace Go.Proofs.YtmhhnmbedlhflaaDoor
open Go.RowKit

def tCells (code n : Nat) (d : Bs) (files : Nat) : Array Value := (.int .i64 (code : Int) :: .int .i64 (n : Int) :: (bcells d ++ [.int .i64 (files : Int)])).toArray
def toldA (code : Nat) : List Bs := if code = 0 then [[111, 107]] else [[101, 114, 114, 111, 114], digs code]
def toldN (n : Nat) : List Bs := if n = 0 then [] else [[110], digs n]
def toldI (d : Bs) : List Bs := if d = List.replicate 32 0 then [] else [[105, 100], hexB d]
def toldF (n : Nat) : List Bs := if n = 0 then [] else [[102, 105, 108, 101, 115], digs n]
def toldW (code n : Nat) (d : Bs) (files : Nat) : List Bs := toldA code ++ toldN n ++ toldI d ++ toldF files
theorem toldW_len {code n : Nat} {d : Bs} {files : Nat} (hc : code < 16777216) (hn : n < 16777216) (hf : files < 16777216) (hd : d.length = 32) : ∀ x ∈ toldW code n d files, x.length ≤ 64 := by
  intro x hx
  have c1 := digs_len code 7 (by omega)
  have c2 := digs_len n 7 (by omega)
  have c3 := digs_len files 7 (by omega)
  have c4 := hexB_len d
  simp only [toldW, List.mem_append] at hx
  rcases hx with ((hx | hx) | hx) | hx
  · unfold toldA at hx
    split at hx <;> simp at hx <;> (try rcases hx with rfl | rfl) <;> (try subst hx) <;> simp <;> omega
  · unfold toldN at hx
    split at hx <;> simp at hx <;> (try rcases hx with rfl | rfl) <;> (try subst hx) <;> simp <;> omega
  · unfold toldI at hx
    split at hx <;> simp at hx <;> (try rcases hx with rfl | rfl) <;> (try subst hx) <;> simp <;> omega
  · unfold toldF at hx
    split at hx <;> simp at hx <;> (try rcases hx with rfl | rfl) <;> (try subst hx) <;> simp <;> omega
theorem scells2 (ws : List Bs) (a b : Bs) : scells (ws ++ [a, b]) = scells ws ++ [.string ⟨a.toArray⟩, .string ⟨b.toArray⟩] := by simp [scells]
theorem ids_neq (d : Bs) (hd : d.length = 32) (w : World) : (binOp .neq 40 (.agg (bcells d).toArray) (.agg #[.int .u8 0, .int .u8 0, .int .u8 0, .int .u8 0, .int .u8 0, .int .u8 0, .int .u8 0, .int .u8 0, .int .u8 0, .int .u8 0, .int .u8 0, .int .u8 0, .int .u8 0, .int .u8 0, .int .u8 0, .int .u8 0, .int .u8 0, .int .u8 0, .int .u8 0, .int .u8 0, .int .u8 0, .int .u8 0, .int .u8 0, .int .u8 0, .int .u8 0, .int .u8 0, .int .u8 0, .int .u8 0, .int .u8 0, .int .u8 0, .int .u8 0, .int .u8 0])).run Tryd.prog w = .ok (.bool (!(d == List.replicate 32 0))) w := by
  have h := run_equalIn_bytes (P := Tryd.prog) w 9998 40 5 32 Tryd.underlying40 Tryd.underlying5 (fun w => by kernel_rfl) d (List.replicate 32 0) hd (by simp)
  have e : (.agg #[.int .u8 0, .int .u8 0, .int .u8 0, .int .u8 0, .int .u8 0, .int .u8 0, .int .u8 0, .int .u8 0, .int .u8 0, .int .u8 0, .int .u8 0, .int .u8 0, .int .u8 0, .int .u8 0, .int .u8 0, .int .u8 0, .int .u8 0, .int .u8 0, .int .u8 0, .int .u8 0, .int .u8 0, .int .u8 0, .int .u8 0, .int .u8 0, .int .u8 0, .int .u8 0, .int .u8 0, .int .u8 0, .int .u8 0, .int .u8 0, .int .u8 0, .int .u8 0] : Value) = .agg ((List.replicate 32 (0 : UInt8)).map Extern.Stop.cell).toArray := rfl
  have e2 : bcells d = d.map Extern.Stop.cell := rfl
  rw [run_neq_struct, e, e2, h]
  rfl
set_option maxHeartbeats 2000000 in
set_option maxRecDepth 100000 in
theorem told_run (code n : Nat) (d : Bs) (files : Nat) (hc : code < 16777216) (hn : n < 16777216) (hf : files < 16777216) (hd : d.length = 32) (w : World) :
    Calls Tryd.prog 16 #[.agg (tCells code n d files)] w fun e w' => e = .returned (.string ⟨(Lib.join (toldW code n d files) [32]).toArray⟩) ∧ Below w.heap.size w w' := by
  have h0 : (tCells code n d files)[0]? = some (.int .i64 (code : Int)) := by simp [tCells]
  have h1 : (tCells code n d files)[1]? = some (.int .i64 (n : Int)) := by simp [tCells]
  have h34 : (tCells code n d files)[34]? = some (.int .i64 (files : Int)) := by simp [tCells, bcells, hd]
  have hr : ∀ (w : World), Blk w w.heap.size 42 (tCells code n d files) → True := fun _ _ => trivial
  have hT2 : ((tCells code n d files).extract 2 (2 + 32)).toList = bcells d := by
    simp [tCells, bcells, hd]
  generalize hT : tCells code n d files = T at h0 h1 h34 hr hT2
  have hT2 := Lib.hid hT2
  have HR2 := Lib.hid (show (Tryd.prog.info? 40).map (·.size) = some (bcells d).length by rw [bcells_len, hd]; exact Tryd.size40)
  obtain ⟨nz, hnz⟩ : ∃ nz, nz = !(d == List.replicate 32 0) := ⟨_, rfl⟩
  have hneq := ids_neq d hd
  rw [← hnz] at hneq
  have HNZ := Lib.hid hnz
  clear hnz
  have HT := Lib.hid hT
  clear hT hr
  have c1 := Lib.hid (fun w => digits_run code (by omega) w)
  have c2 := Lib.hid (fun w => digits_run n (by omega) w)
  have c3 := Lib.hid (fun w => idtext_run d hd w)
  have c4 := Lib.hid (fun w => digits_run files (by omega) w)
  obtain ⟨ti, hi9, hz0, hz1, hz2⟩ := info_parts Tryd.info9
  have x0 : (w.alloc (.cells T 42)).cell? ⟨w.heap.size, 0, none⟩ = some (.int .i64 (code : Int)) := ((Blk.new w 42 T).cell 0).trans h0
  go_enter Tryd.func16, Tryd.ntmps16
  go_upto_if 7 with fail
  go_cut [3] (fun s3 wx => Owns wx (w.heap.size + 1) 9 1 s3 (toldA code).length (scells (toldA code)) ∧ Below w.heap.size w wx ∧ Blk wx w.heap.size 42 T)
  case first =>
    by_cases e0 : code = 0
    · have e0' : (code : Int) = 0 := by omega
      have hA := Lib.hid (show toldA code = [[111, 107]] by unfold toldA; rw [if_pos e0])
      clear e0
      go_wp2_with fail
      go_meet
      case rel =>
        rw [hA.out]
        have o1 := Owns.made (w.alloc (.cells T 42)) 9 1 1 #[.string ⟨#[111, 107]⟩] rfl (by decide)
        rw [show (w.alloc (.cells T 42)).heap.size = w.heap.size + 1 by simp] at o1
        exact ⟨o1, ((Below.refl _ _).alloc (Nat.le_refl _) _).alloc (by simp) _, (Blk.new w 42 T).alloc _⟩
    · have e0' : ¬ (code : Int) = 0 := by omega
      have hA := Lib.hid (show toldA code = [[101, 114, 114, 111, 114], digs code] by unfold toldA; rw [if_neg e0])
      clear e0
      go_wp2_with fail
      refine (c1.out _).mono ?_
      rintro e w1 ⟨rfl, hb1⟩
      have HB := Lib.hid hb1
      clear hb1
      generalize digs code = D at hA
      go_wp2_with fail
      go_meet
      case rel =>
        rw [hA.out]
        have hs := HB.out.size
        simp at hs
        have o1 := (Owns.made w1 9 1 2 #[.string ⟨#[101, 114, 114, 111, 114]⟩, .string ⟨D.toArray⟩] rfl (by decide)).mono (base' := w.heap.size + 1) (by omega)
        refine ⟨o1, (Below.trans (((Below.refl w.heap.size w).alloc (Nat.le_refl _) _).alloc (by simp) _) (HB.out.mono (by simp; omega))).alloc (by omega) _, ?_⟩
        exact Blk.alloc (Blk.of_block ((Blk.new w 42 T).alloc _) (HB.out.block _ (by simp; omega))) _
  case rest =>
    obtain ⟨ho, hb, hB⟩ := hcut
    have HO := Lib.hid ho
    have HBl := Lib.hid hb
    have HB := Lib.hid hB
    have hz14 := hB.lt
    have x1 := (hB.cell 1).trans h1
    obtain ⟨wa14, rfl⟩ : ∃ x : World, x = wc := ⟨_, rfl⟩
    clear ho hb hB
    go_upto_if 14 with fail
    go_cut [3] (fun s3 wx => Owns wx (w.heap.size + 1) 9 1 s3 (toldA code ++ toldN n).length (scells (toldA code ++ toldN n)) ∧ Below w.heap.size w wx ∧ Blk wx w.heap.size 42 T)
    case first =>
      by_cases e0 : n = 0
      · have e0' : (n : Int) = 0 := by omega
        have hA := Lib.hid (show toldN n = [] by unfold toldN; rw [if_pos e0])
        clear e0
        go_wp2_with fail
        go_meet
        case rel =>
          rw [hA.out, List.append_nil]
          exact ⟨HO.out, HBl.out, HB.out⟩
      · have e0' : ¬ (n : Int) = 0 := by omega
        have hA := Lib.hid (show toldN n = [[110], digs n] by unfold toldN; rw [if_neg e0])
        clear e0
        go_wp2_with fail
        refine (c2.out _).mono ?_
        rintro e w1 ⟨rfl, hb1⟩
        generalize digs n = D at hA
        have hown1 := (HO.out.below hb1).alloc (.cells #[.string ⟨#[110]⟩, .string ⟨D.toArray⟩] 9)
        have hblk1 := heap_alloc_new w1 (.cells #[.string ⟨#[110]⟩, .string ⟨D.toArray⟩] 9)
        have B1 := Lib.hid ((HBl.out.trans (hb1.mono (by omega))).alloc (by have := hb1.size; omega) (.cells #[.string ⟨#[110]⟩, .string ⟨D.toArray⟩] 9))
        have A1 := Lib.hid ((HB.out.below hb1).alloc (.cells #[.string ⟨#[110]⟩, .string ⟨D.toArray⟩] 9))
        have hs1 := hb1.size
        have hlw : (toldA code).length ≤ 6 := by unfold toldA; split <;> simp
        clear hb1
        go_wp2_with (at_builtin; refine wpList_append_owns _ rfl _ _ 47 47 rfl (w.heap.size + 1) 9 ti (.string ⟨#[]⟩) 1 16 Tryd.underlying47 hi9 hz0 hz1 hz2 rfl (by decide) _ _ _ rfl hown1 _ 2 [.string ⟨#[110]⟩, .string ⟨D.toArray⟩] rfl (Src.ofSlice _ Tryd.underlying47 _ 2 2 _ rfl (World.news_of_block hblk1) (by simp [Value.oneCell'])) (by unfold maxLen; omega) (by omega) (by simp; omega) ?_)
        intro v' w7 hown7 hgr7 hblk7 _
        have O7 := Lib.hid hown7
        have B7 := Lib.hid (B1.out.grown hgr7 (by simp; omega) (fun x hx => by have := (hown1.block hx).1; omega))
        have A7 := Lib.hid (A1.out.of_block (hgr7.block _ A1.out.lt (by intro e; have := (hown1.block e.symm).1; omega)))
        clear hown7 hgr7 hblk7 hown1 hblk1
        go_wp2_with fail
        go_meet
        case rel =>
          rw [hA.out]
          refine ⟨?_, B7.out, A7.out⟩
          rw [scells2, List.length_append]
          first | exact O7.out | simpa only [List.length_append, List.append_assoc, List.length_cons, List.length_nil, Nat.zero_add, Nat.add_assoc, Nat.reduceAdd] using O7.out
    case rest =>
      obtain ⟨ho, hb, hB⟩ := hcut
      have HO := Lib.hid ho
      have HBl := Lib.hid hb
      have HB := Lib.hid hB
      have hz24 := hB.lt
      have hrg : wc.rangeAt w.heap.size 2 (bcells d) := by
        have := World.rangeAt_of_block hB 2 32
        rw [hT2.out] at this
        exact this
      have HR := Lib.hid hrg
      clear hrg
      obtain ⟨wa24, rfl⟩ : ∃ x : World, x = wc := ⟨_, rfl⟩
      clear ho hb hB
      go_upto_if 24 with (refine wpList_load_mid rfl 40 _ rfl w.heap.size 2 rfl (bcells d) (.array 32 5) HR.out Tryd.underlying40 rfl HR2.out ?_)
      go_cut [3] (fun s3 wx => Owns wx (w.heap.size + 1) 9 1 s3 (toldA code ++ toldN n ++ toldI d).length (scells (toldA code ++ toldN n ++ toldI d)) ∧ Below w.heap.size w wx ∧ Blk wx w.heap.size 42 T)
      case first =>
        cases nz
        · have hA := Lib.hid (show toldI d = [] by unfold toldI; rw [if_pos (by have := HNZ.out; simpa using this)])
          go_wp2_with fail
          go_meet
          case rel =>
            rw [hA.out, List.append_nil]
            exact ⟨HO.out, HBl.out, HB.out⟩
        · have hA := Lib.hid (show toldI d = [[105, 100], hexB d] by unfold toldI; rw [if_neg (fun e => by have := HNZ.out; rw [e] at this; simp at this)])
          go_wp2_with (refine wpList_load_mid rfl 40 _ rfl w.heap.size 2 rfl (bcells d) (.array 32 5) HR.out Tryd.underlying40 rfl HR2.out ?_)
          refine (c3.out _).mono ?_
          rintro e w1 ⟨rfl, hb1⟩
          generalize hexB d = D at hA
          have hown1 := (HO.out.below hb1).alloc (.cells #[.string ⟨#[105, 100]⟩, .string ⟨D.toArray⟩] 9)
          have hblk1 := heap_alloc_new w1 (.cells #[.string ⟨#[105, 100]⟩, .string ⟨D.toArray⟩] 9)
          have B1 := Lib.hid ((HBl.out.trans (hb1.mono (by omega))).alloc (by have := hb1.size; omega) (.cells #[.string ⟨#[105, 100]⟩, .string ⟨D.toArray⟩] 9))
          have A1 := Lib.hid ((HB.out.below hb1).alloc (.cells #[.string ⟨#[105, 100]⟩, .string ⟨D.toArray⟩] 9))
          have hs1 := hb1.size
          have hlw : (toldA code ++ toldN n).length ≤ 6 := by unfold toldA toldN; split <;> split <;> simp
          clear hb1
          go_wp2_with (at_builtin; refine wpList_append_owns _ rfl _ _ 47 47 rfl (w.heap.size + 1) 9 ti (.string ⟨#[]⟩) 1 16 Tryd.underlying47 hi9 hz0 hz1 hz2 rfl (by decide) _ _ _ rfl hown1 _ 2 [.string ⟨#[105, 100]⟩, .string ⟨D.toArray⟩] rfl (Src.ofSlice _ Tryd.underlying47 _ 2 2 _ rfl (World.news_of_block hblk1) (by simp [Value.oneCell'])) (by unfold maxLen; omega) (by omega) (by simp; omega) ?_)
          intro v' w7 hown7 hgr7 hblk7 _
          have O7 := Lib.hid hown7
          have B7 := Lib.hid (B1.out.grown hgr7 (by simp; omega) (fun x hx => by have := (hown1.block hx).1; omega))
          have A7 := Lib.hid (A1.out.of_block (hgr7.block _ A1.out.lt (by intro e; have := (hown1.block e.symm).1; omega)))
          clear hown7 hgr7 hblk7 hown1 hblk1
          go_wp2_with fail
          go_meet
          case rel =>
            rw [hA.out]
            refine ⟨?_, B7.out, A7.out⟩
            rw [scells2, List.length_append]
            first | exact O7.out | simpa only [List.length_append, List.append_assoc, List.length_cons, List.length_nil, Nat.zero_add, Nat.add_assoc, Nat.reduceAdd] using O7.out
      case rest =>
        obtain ⟨ho, hb, hB⟩ := hcut
        have HO := Lib.hid ho
        have HBl := Lib.hid hb
        have HB := Lib.hid hB
        have hz33 := hB.lt
        have x34 := (hB.cell 34).trans h34
        obtain ⟨wa33, rfl⟩ : ∃ x : World, x = wc := ⟨_, rfl⟩
        clear ho hb hB
        go_upto_if 33 with fail
        go_cut [3] (fun s3 wx => Owns wx (w.heap.size + 1) 9 1 s3 (toldA code ++ toldN n ++ toldI d ++ toldF files).length (scells (toldA code ++ toldN n ++ toldI d ++ toldF files)) ∧ Below w.heap.size w wx ∧ Blk wx w.heap.size 42 T)
        case first =>
          by_cases e0 : files = 0
          · have e0' : (files : Int) = 0 := by omega
            have hA := Lib.hid (show toldF files = [] by unfold toldF; rw [if_pos e0])
            clear e0
            go_wp2_with fail
            go_meet
            case rel =>
              rw [hA.out, List.append_nil]
              exact ⟨HO.out, HBl.out, HB.out⟩
          · have e0' : ¬ (files : Int) = 0 := by omega
            have hA := Lib.hid (show toldF files = [[102, 105, 108, 101, 115], digs files] by unfold toldF; rw [if_neg e0])
            clear e0
            go_wp2_with fail
            refine (c4.out _).mono ?_
            rintro e w1 ⟨rfl, hb1⟩
            generalize digs files = D at hA
            have hown1 := (HO.out.below hb1).alloc (.cells #[.string ⟨#[102, 105, 108, 101, 115]⟩, .string ⟨D.toArray⟩] 9)
            have hblk1 := heap_alloc_new w1 (.cells #[.string ⟨#[102, 105, 108, 101, 115]⟩, .string ⟨D.toArray⟩] 9)
            have B1 := Lib.hid ((HBl.out.trans (hb1.mono (by omega))).alloc (by have := hb1.size; omega) (.cells #[.string ⟨#[102, 105, 108, 101, 115]⟩, .string ⟨D.toArray⟩] 9))
            have A1 := Lib.hid ((HB.out.below hb1).alloc (.cells #[.string ⟨#[102, 105, 108, 101, 115]⟩, .string ⟨D.toArray⟩] 9))
            have hs1 := hb1.size
            have hlw : (toldA code ++ toldN n ++ toldI d).length ≤ 6 := by unfold toldA toldN toldI; split <;> split <;> split <;> simp
            clear hb1
            go_wp2_with (at_builtin; refine wpList_append_owns _ rfl _ _ 47 47 rfl (w.heap.size + 1) 9 ti (.string ⟨#[]⟩) 1 16 Tryd.underlying47 hi9 hz0 hz1 hz2 rfl (by decide) _ _ _ rfl hown1 _ 2 [.string ⟨#[102, 105, 108, 101, 115]⟩, .string ⟨D.toArray⟩] rfl (Src.ofSlice _ Tryd.underlying47 _ 2 2 _ rfl (World.news_of_block hblk1) (by simp [Value.oneCell'])) (by unfold maxLen; omega) (by omega) (by simp; omega) ?_)
            intro v' w7 hown7 hgr7 hblk7 _
            have O7 := Lib.hid hown7
            have B7 := Lib.hid (B1.out.grown hgr7 (by simp; omega) (fun x hx => by have := (hown1.block hx).1; omega))
            have A7 := Lib.hid (A1.out.of_block (hgr7.block _ A1.out.lt (by intro e; have := (hown1.block e.symm).1; omega)))
            clear hown7 hgr7 hblk7 hown1 hblk1
            go_wp2_with fail
            go_meet
            case rel =>
              rw [hA.out]
              refine ⟨?_, B7.out, A7.out⟩
              rw [scells2, List.length_append]
              first | exact O7.out | simpa only [List.length_append, List.append_assoc, List.length_cons, List.length_nil, Nat.zero_add, Nat.add_assoc, Nat.reduceAdd] using O7.out
        case rest =>
          obtain ⟨ho, hb, hB⟩ := hcut
          have hlen : (toldW code n d files).length ≤ 8 := by unfold toldW toldA toldN toldI toldF; split <;> split <;> split <;> split <;> simp
          have hJ := join_run (l := toldW code n d files) ho (by unfold toldA; split <;> simp) (by have := hlen; unfold toldW at this; omega) (Nat.le_trans (join_le 32 64 _ (toldW_len hc hn hf hd)) (by omega))
          have HJ := Lib.hid hJ
          have HB := Lib.hid hb
          have hz := hB.lt
          clear ho hb hB hJ hlen
          go_wp2_with fail
          refine HJ.out.mono ?_
          rintro e w9 ⟨rfl, hb9⟩
          have HB9 := Lib.hid (HB.out.trans (hb9.mono (by omega)))
          clear hb9
          go_wp2_with fail
          go_ret
          exact ⟨rfl, HB9.out⟩
end Go.Proofs.YtmhhnmbedlhflaaDoor
