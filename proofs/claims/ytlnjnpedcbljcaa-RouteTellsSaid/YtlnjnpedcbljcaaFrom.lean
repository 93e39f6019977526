/- The search: by whom each is reached. -/
import Derived.Test.YtlnjnpedcbljcaaSmall
import Derived.Test.YtlnjnpedcbljcaaMaps
import Derived.Test.YtlnjnpedcbljcaaRoutePlain
namespace Go.Proofs.Ytlnjnpedcbljcaa
open Go.RowKit RoutePlain
theorem Try.info3 : (Try.prog.info? 3).map (fun i => (i.zero, i.size, i.bytes)) = some (some (.int .i64 0), 1, 8) := by kernel_rfl
theorem zero3 (w : World) : (zeroValue 3).run Try.prog w = .ok (.int .i64 0) w := by kernel_rfl
theorem lookup_ok {w : World} {g : Nat} {l : List (Int × Value)} (h : MapIs intKeys w g l) (a : Int) :
    (Instr.lookup 50 (.map (some g)) (.int .i64 a) true).run Try.prog w = .ok (.tuple #[(getE l a).getD (.int .i64 0), .bool (getE l a).isSome]) w :=
  h.lookup Try.underlying50 Try.underlying3 a (zero3 w) true
theorem lookup_no {w : World} {g : Nat} {l : List (Int × Value)} (h : MapIs intKeys w g l) (a : Int) :
    (Instr.lookup 50 (.map (some g)) (.int .i64 a) false).run Try.prog w = .ok ((getE l a).getD (.int .i64 0)) w :=
  h.lookup Try.underlying50 Try.underlying3 a (zero3 w) false

theorem update50 {w : World} {g : Nat} {l : List (Int × Value)} (h : MapIs intKeys w g l) (a : Int) (v : Value) :
    ∃ w', (Instr.mapUpdate 50 (.map (some g)) (.int .i64 a) v).run Try.prog w = .ok () w' ∧ MapIs intKeys w' g (setE l a v) ∧ w.grownBy w' (some g) ∧ w'.heap.size = w.heap.size :=
  h.update Try.underlying50 Try.underlying3 a v

/-- The map's entries are the search's. -/
def Ways (l : List (Int × Value)) (B : Nat → Option Nat) : Prop := ∀ x : Int, getE l x = if 0 ≤ x then (B x.toNat).map fun y => .int .i64 (y : Int) else none
theorem Ways.at_ {l : List (Int × Value)} {B : Nat → Option Nat} (h : Ways l B) (b : Nat) : getE l (b : Int) = (B b).map fun y => .int .i64 (y : Int) := by
  have := h b; rw [if_pos (by omega)] at this; simpa using this
theorem Ways.set {l : List (Int × Value)} {B : Nat → Option Nat} (h : Ways l B) (b p : Nat) : Ways (setE l (b : Int) (.int .i64 (p : Int))) (upd B b (some p)) := by
  intro x
  rw [getE_set]
  by_cases e : x = (b : Int)
  · subst e; rw [if_pos rfl, if_pos (by omega)]; simp [upd]
  · rw [if_neg e, h x]
    by_cases h0 : 0 ≤ x
    · rw [if_pos h0, if_pos h0, upd_other _ _ (by omega)]
    · rw [if_neg h0, if_neg h0]
theorem Ways.start (a : Nat) : Ways (setE [] (a : Int) (.int .i64 (a : Int))) (upd (fun _ => none) a (some a)) := by
  refine Ways.set (B := fun _ => none) (fun x => ?_) a a
  simp [getE]

def ints (l : List Nat) : List Value := l.map fun (n : Nat) => .int .i64 (n : Int)

/-- What holds while the search goes on. -/
structure Going (w wr : World) (m : Nat → Nat → Bool) (n a g : Nat) (q : List Nat) (v : Value) (c : Nat) (now : Option (Nat × Nat)) : Prop where
  below : Below w.heap.size w wr
  glo : w.heap.size ≤ g
  more : ∃ l B lev L, MapIs intKeys wr g l ∧ Ways l B ∧ Search m n a B lev q c L now
  queue : Owns wr w.heap.size 3 1 v q.length (ints q)

theorem Graph.below {w w' : World} {B p mb n : Nat} {rb : Nat → Nat} {m : Nat → Nat → Bool} (hG : Graph w B p mb rb n m) (hk : Below w.heap.size w w') : Graph w' B p mb rb n m :=
  hG.keep (F := fun _ => False) (Keep.of_below hk) (fun h => h) (fun h => h) (fun _ _ h => h)

set_option maxHeartbeats 1000000 in
theorem from_graph (w : World) (B0 p mb n : Nat) (rb : Nat → Nat) (m : Nat → Nat → Bool) (a : Nat) (hG : Graph w B0 p mb rb n m) (ha : a < n) (hn : n ≤ 16) :
    Calls Try.prog 19 #[.pointer (some ⟨p, 0, none⟩), .int .i64 a] w fun e w' => ∃ g l B lev, e = .returned (.map (some g)) ∧ MapIs intKeys w' g l ∧ Ways l B ∧ Tree m n a B lev ∧ Below w.heap.size w w' := by
  obtain ⟨w1, hup, hM, hgr, hsz⟩ := update50 (MapIs.made w) (a : Int) (.int .i64 (a : Int))
  have hmm := @run_makeMap Try.prog
  have HG := Lib.hid hG
  clear hG
  go_enter Try.func19, Try.ntmps19
  go_wp2_with fail
  have hgo : Going w (w1.alloc (.cells #[Value.int .i64 (a : Int)] 3)) m n a w.heap.size [a] (.slice (some ⟨w.heap.size + 1, 0, none⟩) 1 1) 0 none := by
    have hz1 : w1.heap.size = w.heap.size + 1 := by rw [hsz]; simp
    have ho := Owns.made w1 3 1 1 #[Value.int .i64 (a : Int)] rfl (by unfold maxLen; omega)
    rw [hz1] at ho
    exact ⟨(((Below.refl _ w).alloc (Nat.le_refl _) _).grown hgr (by simp) (fun k hk => by injection hk with hk; omega)).alloc (by omega) _, Nat.le_refl _,
      ⟨_, _, _, _, hM.alloc _, Ways.start a, Search.start ha⟩, ho.mono (by omega)⟩
  clear hup hmm hsz hgr hM
  generalize w1.alloc (.cells #[Value.int .i64 (a : Int)] 3) = w2 at hgo ⊢
  generalize hg : w.heap.size = g at hgo ⊢
  have HGG := Lib.hid hg
  clear hg
  generalize Value.slice (some ⟨g + 1, 0, none⟩) 1 1 = v0 at hgo ⊢
  go_loopg [6] n (fun gk v wr => ∃ q c, c ≤ n ∧ gk = n - c ∧ Going w wr m n a g q v c none)
  case atStart => exact ⟨_, 0, Nat.zero_le _, rfl, hgo⟩
  case round =>
    clear hgo
    obtain ⟨q, c, hcn, rfl, hgo⟩ := hrel
    cases q with
    | nil =>
      obtain ⟨A, cap, rfl⟩ := hgo.queue.len
      obtain ⟨l, B, lev, L, h1, h2, h3⟩ := hgo.more
      have HB := Lib.hid hgo.below
      clear hgo hcn
      go_wp2
      go_ret
      refine ⟨g, l, B, lev, rfl, h1, h2, h3.over, ?_⟩
      exact HB.out
    | cons p0 rest =>
      obtain ⟨g2, off, cap, hv, hlo, hg2, hcap, hcells, hfr⟩ := hgo.queue.form (by simp)
      have hc0 : wr.cell? ⟨g2, off, none⟩ = some (.int .i64 (p0 : Int)) := hcells 0 _ rfl
      obtain ⟨i0, hi, hz0, hz1, hz2⟩ := info_parts Try.info3
      have hq2 := hgo.queue.from_ hv (k := 1) (by simp)
      have hrun := fun W => run_from (P := Try.prog) 36 3 i0 Try.underlying36 hi ⟨g2, off, none⟩ (p0 :: rest).length cap 1 (by simp) .i64 W
      rw [hz1] at hrun
      have hadd : (⟨g2, off, none⟩ : Addr).add (1 * 1) = ⟨g2, off + 1 * 1, none⟩ := rfl
      rw [hadd] at hrun
      simp only [List.length_cons, Nat.add_sub_cancel, ints, List.map_cons, Nat.one_mul, List.drop_succ_cons, List.drop_zero] at hq2 hrun
      generalize Value.slice (some (if cap = 1 then ⟨g2, off, none⟩ else ⟨g2, off + 1, none⟩)) rest.length (cap - 1) = v2 at hq2 hrun
      have hG2 : Going w wr m n a g rest v2 (c + 1) (some (p0, 0)) := by
        obtain ⟨l, B, lev, L, h1, h2, h3⟩ := hgo.more
        exact ⟨hgo.below, hgo.glo, ⟨l, B, lev, _, h1, h2, h3.pop⟩, hq2⟩
      have hpn : p0 < n := by
        obtain ⟨l, B, lev, L, h1, h2, h3⟩ := hgo.more
        obtain ⟨y, hy⟩ := Option.isSome_iff_exists.1 (h3.inq p0 List.mem_cons_self)
        exact (h3.dom _ _ hy).1
      have hcn' : c < n := by
        obtain ⟨l, B, lev, L, h1, h2, h3⟩ := hgo.more
        have := h3.count; simp only [List.length_cons] at this; omega
      subst hv
      clear hcells hfr hq2 hgo hi hz0 hz1 hz2 hcap
      simp only [List.length_cons] at hrun ⊢
      have hrun' : (Instr.sliceAt 36 (.slice (some ⟨g2, off, none⟩) (rest.length + 1) cap) (some (.int .i64 1)) none none).run Try.prog wr = .ok v2 wr := hrun wr
      clear hrun
      go_wp2_with fail
      refine (len_graph wr p n mb (HG.out.below hG2.below).obj).mono ?_
      rintro e w' ⟨rfl, hw⟩
      obtain rfl := hw.symm
      clear hrun' hc0
      go_wp2_with fail
      go_loopg [6, 27] n (fun gi v i wi => ∃ q b, b ≤ n ∧ gi = n - b ∧ i = .int .i64 (b : Int) ∧ Going w wi m n a g q v (c + 1) (some (p0, b)))
      case atStart => exact ⟨rest, 0, Nat.zero_le _, rfl, rfl, hG2⟩
      case round =>
        clear hG2
        obtain ⟨q, b, hbn, rfl, rfl, hgo⟩ := hrel
        by_cases hlt : b < n
        · have hlt' : (b : Int) < (n : Int) := by omega
          have hpn' : (p0 : Int) < (n : Int) := by omega
          have hgr := HG.out.below hgo.below
          have HQ := Lib.hid hgo.queue
          have HBl := Lib.hid hgo.below
          have HL := hgo.glo
          obtain ⟨l, B, lev, L, h1, h2, h3⟩ := hgo.more
          clear hgo
          have H3 := Lib.hid h3
          have H1 := Lib.hid h1
          have H2 := Lib.hid h2
          have hlk := lookup_ok h1 (b : Int)
          rw [h2.at_ b] at hlk
          cases hB : B b with
          | some y =>
            rw [hB] at hlk
            simp only [Option.map_some, Option.getD_some, Option.isSome_some] at hlk
            have HBb := Lib.hid hB
            clear hB h1 h2 h3 hgr
            go_wp2_with fail
            go_roundg (n - (b + 1))
            case measure => omega
            case rel => exact ⟨q, b + 1, by omega, rfl, by go_num, HBl.out, HL, ⟨l, B, lev, L, H1.out, H2.out, H3.out.pass (.inl (by rw [HBb.out]; rfl))⟩, HQ.out⟩
          | none =>
            rw [hB] at hlk
            simp only [Option.map_none, Option.getD_none, Option.isSome_none] at hlk
            have HBb := Lib.hid hB
            have c1 : wr.cell? ⟨p, 1, none⟩ = some (.slice (some ⟨mb, 0, none⟩) n n) := by rw [hgr.obj.cell]; rfl
            have c2 := hgr.rows.cell hpn
            have c3 := (hgr.each p0 hpn).cell hlt
            cases hm : m p0 b
            · rw [hm] at c3
              have HM := Lib.hid hm
              clear hB h1 h2 h3 hgr hm
              go_wp2_with fail
              go_roundg (n - (b + 1))
              case measure => omega
              case rel => exact ⟨q, b + 1, by omega, rfl, by go_num, HBl.out, HL, ⟨l, B, lev, L, H1.out, H2.out, H3.out.pass (.inr HM.out)⟩, HQ.out⟩
            · rw [hm] at c3
              have HM := Lib.hid hm
              obtain ⟨w3, hup, hM3, hgr3, hsz3⟩ := update50 h1 (b : Int) (.int .i64 (p0 : Int))
              have hz3 : w.heap.size ≤ w3.heap.size := by have := HBl.out.size; omega
              have hown3 : Owns w3 w.heap.size 3 1 u6 q.length (ints q) := HQ.out.grown hgr3 (.inr (fun e => H1.out.ne_own HQ.out e))
              have hown4 := hown3.alloc (.cells #[Value.int .i64 (b : Int)] 3)
              obtain ⟨i1, hi, hz0, hz1, hz2⟩ := info_parts Try.info3
              have hql : q.length ≤ 16 := by have := H3.out.count; omega
              have hsrc : Src Try.prog 1 36 (.slice (some ⟨w3.heap.size, 0, none⟩) 1 1) 1 [.int .i64 (b : Int)] (w3.alloc (.cells #[Value.int .i64 (b : Int)] 3)) :=
                Src.ofSlice _ Try.underlying36 _ 1 1 _ rfl (World.news_of_block (heap_alloc_new w3 _)) (by simp [Value.oneCell'])
              clear hB h1 h2 h3 hgr hm hsz3
              go_wp2_with (at_builtin; go_loud (refine wpList_append_owns _ rfl _ _ 36 36 rfl w.heap.size 3 i1 (.int .i64 0) 1 8 Try.underlying36 hi hz0 hz1 hz2 rfl (by decide) _ _ _ rfl hown4 _ 1 [.int .i64 (b : Int)] rfl hsrc (by unfold maxLen; omega) (by omega) (by simp; omega) ?_))
              intro v' w5 hown5 hgr5 hblk5 _
              have hne5 : some g ≠ Value.ownBlock u6 := fun e => H1.out.ne_own HQ.out e.symm
              go_wp2_with fail
              go_roundg (n - (b + 1))
              case measure => omega
              case rel =>
                have hb3 := HBl.out.grown hgr3 (by have := HBl.out.size; omega) (fun k hk => by injection hk with hk; omega)
                have hb4 := (hb3.alloc hz3 (.cells #[Value.int .i64 (b : Int)] 3)).grown hgr5 (by simp; omega) (fun k hk => (HQ.out.block hk).1)
                refine ⟨q ++ [b], b + 1, by omega, rfl, by go_num, hb4, HL, ⟨_, _, _, L, (hM3.alloc _).grown hgr5 hne5, H2.out.set b p0, H3.out.found HBb.out HM.out hlt⟩, ?_⟩
                have e1 : (q ++ [b]).length = q.length + 1 := by simp
                have e2 : ints (q ++ [b]) = ints q ++ [.int .i64 (b : Int)] := by simp [ints]
                rw [e1, e2]
                exact hown5
        · obtain rfl : b = n := by omega
          have HGo := Lib.hid hgo
          clear hgo
          go_wp2_with fail
          go_roundg (b - (c + 1))
          case measure => omega
          case rel =>
            obtain ⟨h1, h2, ⟨l, B, lev, L, h3, h4, h5⟩, h6⟩ := HGo.out
            exact ⟨q, c + 1, by omega, rfl, h1, h2, ⟨l, B, lev, L, h3, h4, h5.next (Nat.le_refl _)⟩, h6⟩
end Go.Proofs.Ytlnjnpedcbljcaa
