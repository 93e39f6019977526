/- Made: a graph of pairs, and who meets whom. -/
import Derived.Test.YtlnjnpedcbljcaaRef
namespace Go.Proofs.Ytlnjnpedcbljcaa
open Go.RowKit RoutePlain

/-- The argument: so many pairs. -/
structure Pairs (w : World) (A : Option Addr) (b off L : Nat) (X Y : Nat → Int) : Prop where
  addr : ∀ i, i < L → A = some ⟨b, off, none⟩
  lt : 0 < L → b < w.heap.size
  fst : ∀ i, i < L → w.cell? ⟨b, off + i * 2, none⟩ = some (.int .i64 (X i))
  snd : ∀ i, i < L → w.cell? ⟨b, off + i * 2 + 1, none⟩ = some (.int .i64 (Y i))
theorem Pairs.below {w w' : World} {A : Option Addr} {b off L : Nat} {X Y : Nat → Int} (h : Pairs w A b off L X Y) (hb : Below w.heap.size w w') : Pairs w' A b off L X Y :=
  ⟨h.addr, fun hl => Nat.lt_of_lt_of_le (h.lt hl) hb.size, fun i hi => (hb.cell (p := ⟨b, off + i * 2, none⟩) (h.lt (by omega))).trans (h.fst i hi), fun i hi => (hb.cell (p := ⟨b, off + i * 2 + 1, none⟩) (h.lt (by omega))).trans (h.snd i hi)⟩

/-- Meetings: both ways, of those that are, nobody with itself. -/
structure Meets (n : Nat) (m : Nat → Nat → Bool) : Prop where
  sym : ∀ x y, m x y = m y x
  self : ∀ x, m x x = false
  in_ : ∀ x y, m x y = true → x < n ∧ y < n
theorem Meets.none (n : Nat) : Meets n (fun _ _ => false) := ⟨fun _ _ => rfl, fun _ => rfl, fun _ _ h => by cases h⟩
theorem Meets.meet {n : Nat} {m : Nat → Nat → Bool} (h : Meets n m) {a b : Nat} (ha : a < n) (hb : b < n) (hne : a ≠ b) : Meets n (meet m a b) := by
  refine ⟨fun x y => ?_, fun x => ?_, fun x y hm => ?_⟩
  · unfold Ytlnjnpedcbljcaa.meet
    by_cases h1 : x = b ∧ y = a
    · rw [if_pos h1, if_neg (by omega), if_pos ⟨h1.2, h1.1⟩]
    · rw [if_neg h1]
      by_cases h2 : x = a ∧ y = b
      · rw [if_pos h2, if_pos ⟨h2.2, h2.1⟩]
      · rw [if_neg h2, if_neg (by omega), if_neg (by omega)]; exact h.sym x y
  · unfold Ytlnjnpedcbljcaa.meet
    rw [if_neg (by omega), if_neg (by omega)]; exact h.self x
  · unfold Ytlnjnpedcbljcaa.meet at hm
    by_cases h1 : x = b ∧ y = a
    · omega
    · rw [if_neg h1] at hm
      by_cases h2 : x = a ∧ y = b
      · omega
      · rw [if_neg h2] at hm; exact h.in_ x y hm

/-- While pairs are taken. -/
structure Taking (w wr : World) (g8 p mb : Nat) (rb : Nat → Nat) (n : Nat) (m : Nat → Nat → Bool) : Prop where
  below : Below w.heap.size w wr
  graph : Graph wr w.heap.size p mb rb n m
  meets : Meets n m
  out : wr.rowIs w.heap.size 29 256 (fun _ => .bool false)
  own : wr.rowIs g8 29 256 (fun j => .bool (m (j / 16) (j % 16)))
  ne : g8 ≠ w.heap.size
  lo : w.heap.size ≤ g8

theorem Taking.cell {w wr : World} {g8 p mb : Nat} {rb : Nat → Nat} {n : Nat} {m : Nat → Nat → Bool} (h : Taking w wr g8 p mb rb n m) {i k : Nat} (hi : i < 16) (hk : k < 16) :
    wr.cell? ⟨g8, i * 16 + k, none⟩ = some (.bool (m i k)) := by
  have := h.own.cell (i := i * 16 + k) (by omega)
  rw [ix_div hk, ix_mod hk] at this; exact this

theorem Taking.drewN {w wr : World} {g8 p mb : Nat} {rb : Nat → Nat} {n : Nat} {m : Nat → Nat → Bool} (h : Taking w wr g8 p mb rb n m) (q : Nat) : Taking w (wr.drewN q) g8 p mb rb n m :=
  ⟨⟨h.below.os, h.below.tape, h.below.output, h.below.size, h.below.block⟩, ⟨h.graph.obj, h.graph.rows, h.graph.each, h.graph.inj, h.graph.lo⟩, h.meets, h.out, h.own, h.ne, h.lo⟩
theorem Taking.step {w wr w1 : World} {g8 p mb : Nat} {rb : Nat → Nat} {n : Nat} {m : Nat → Nat → Bool} (h : Taking w wr g8 p mb rb n m) {a b : Nat} (ha : a < n) (hb : b < n) (hne : a ≠ b) (hn : n ≤ 16)
    (hg : Graph w1 w.heap.size p mb rb n (meet m a b)) (hk : Keep (fun k => ∃ i, i < n ∧ k = rb i) wr w1) :
    w1.rowIs g8 29 256 (fun j => .bool (m (j / 16) (j % 16))) ∧
    Taking w ((w1.setCell ⟨g8, a * 16 + b, none⟩ (.bool true)).setCell ⟨g8, b * 16 + a, none⟩ (.bool true)) g8 p mb rb n (meet m a b) := by
  have n1 : ∀ i, i < n → g8 ≠ rb i := fun i hi => row_ne h.own (h.graph.each i hi) (by decide)
  have n2 : ∀ i, i < n → w.heap.size ≠ rb i := fun i hi => row_ne h.out (h.graph.each i hi) (by decide)
  have o1 := hk.row h.own (fun ⟨i, hi, e⟩ => n1 i hi e)
  have o2 := hk.row h.out (fun ⟨i, hi, e⟩ => n2 i hi e)
  have n3 : p ≠ g8 := by
    obtain ⟨c, hc, _⟩ := row_blk o1
    exact Blk.ne_ hg.obj hc (by decide)
  have n4 : mb ≠ g8 := row_ne hg.rows o1 (by decide)
  refine ⟨o1, ?_, ?_, h.meets.meet ha hb hne, (o2.setOther (by exact fun e => h.ne e.symm) _).setOther (by exact fun e => h.ne e.symm) _, ?_, h.ne, h.lo⟩
  · have : Below w.heap.size w w1 := h.below.trans ⟨hk.os, hk.tape, hk.output, hk.size, fun k hkk => hk.block k (Nat.lt_of_lt_of_le hkk h.below.size) (fun ⟨i, hi, e⟩ => by have := h.graph.lo.2.2 i hi; omega)⟩
    exact (this.setCell (p := ⟨g8, a * 16 + b, none⟩) h.lo _).setCell (p := ⟨g8, b * 16 + a, none⟩) h.lo _
  · have k1 : Keep (fun k => k = g8) w1 ((w1.setCell ⟨g8, a * 16 + b, none⟩ (.bool true)).setCell ⟨g8, b * 16 + a, none⟩ (.bool true)) :=
      ((Keep.refl (fun k => k = g8) w1).setCell (p := ⟨g8, a * 16 + b, none⟩) (.inl rfl) _).setCell (p := ⟨g8, b * 16 + a, none⟩) (.inl rfl) _
    exact hg.keep k1 n3 n4 (fun i hi e => n1 i hi e.symm)
  · refine ((o1.set (a * 16 + b) _).set (b * 16 + a) _).congr fun j hj => ?_
    have e1 : (j = b * 16 + a) ↔ (j / 16 = b ∧ j % 16 = a) := by omega
    have e2 : (j = a * 16 + b) ↔ (j / 16 = a ∧ j % 16 = b) := by omega
    show (if j = b * 16 + a then Value.bool true else if j = a * 16 + b then Value.bool true else Value.bool (m (j / 16) (j % 16))) = Value.bool (if j / 16 = b ∧ j % 16 = a then true else if j / 16 = a ∧ j % 16 = b then true else m (j / 16) (j % 16))
    simp only [e1, e2]
    split
    · rfl
    · split <;> rfl

def Whole (w : World) (g : Nat) (R : Array Value) : Prop := Blk w g 29 R ∧ R.size = 256
def Spare (w : World) (g : Nat) (R : Array Value) : Prop := (∃ old, Blk w g 29 old ∧ old.size = R.size) ∧ R.size = 256 ∧ R.all (·.oneCell') = true
theorem load29 (w : World) (g : Nat) (R : Array Value) (h : Whole w g R) : (Instr.loadAt 29 (.pointer (some ⟨g, 0, none⟩))).run Try.prog w = .ok (.agg R) w := by
  have hi : (Try.prog.info? 29).map (·.size) = some R.size := by rw [h.2]; exact size29
  simp only [Instr.loadAt, Instr.sureAddr, Sem.run_bind, Sem.run_pure, Result.andThen_ok, run_loadVar_row (P := Try.prog) w g 29 29 R (0, 0) _ h.1 Try.underlying29 rfl hi]
theorem store29 (w : World) (g : Nat) (R : Array Value) (h : Spare w g R) : (Instr.storeAt 29 (.pointer (some ⟨g, 0, none⟩)) (.agg R)).run Try.prog w = .ok () (w.setRow g R) := by
  obtain ⟨⟨old, ho, hz⟩, hR, h1⟩ := h
  have hi : (Try.prog.info? 29).map (·.size) = some R.size := by rw [hR]; exact size29
  simp only [Instr.storeAt, Instr.sureAddr, Sem.run_bind, Sem.run_pure, Result.andThen_ok, run_storeVar_row (P := Try.prog) w g 29 29 old R ho hi hz h1]
theorem made_results (tmps : Array Value) (w : World) (g : Nat) (R : Array Value) (hp : tmps.getD 5 undef = .pointer (some ⟨g, 0, none⟩)) (hg : w.heap[g]? = some (.cells R 29 (0, 0))) (hi : (Try.prog.info? 29).map (·.size) = some R.size) :
    (results Try.f6 tmps).run Try.prog w = .ok (.tuple #[tmps.getD 4 undef, .agg R]) w := by
  have hp' : tmps[5]?.getD undef = .pointer (some ⟨g, 0, none⟩) := by simpa using hp
  simp [results, Try.results6, hp', asAddr, run_loadVar_row (P := Try.prog) w g 29 29 R (0, 0) _ hg Try.underlying29 rfl hi]
theorem step_of_wp {P : Program} {ops : Array Oper} {o : Oper} {a : Act} {w : World} {K : Act → World → Prop} {Q : Exit → Act → World → Prop} {E : Prop} (hgd : o.guard = none) (h : o.wp P a w K Q) :
    if Region.wanted o (yielded ops a.tmps) = true then o.wp P a w K Q else E := by
  rw [if_pos (by simp [Region.wanted, hgd])]; exact h

set_option maxHeartbeats 1000000 in
theorem made_pairs (w : World) (n : Nat) (hn : n ≤ 16) (A : Option Addr) (b off L C : Nat) (X Y : Nat → Int) (hp : Pairs w A b off L X Y) (hL : L ≤ 9223372036854775807) :
    Calls Try.prog 6 #[.int .i64 n, .slice A L C] w fun e w' => ∃ p mb rb m, e = .returned (.tuple #[.pointer (some ⟨p, 0, none⟩), .agg (sq fun i k => .bool (m i k))]) ∧ Graph w' w.heap.size p mb rb n m ∧ Meets n m ∧ Below w.heap.size w w' := by
  have h1 := zero29
  generalize hA : (sq fun _ _ => Value.bool false) = Z at h1
  have HA := Lib.hid hA
  have HP := Lib.hid hp
  clear hA hp
  go_enter Try.func6, Try.ntmps6
  go_wp2_with fail
  refine (new_yes n (w.alloc (.cells Z 29)) hn).mono ?_
  rintro e w1 ⟨rfl, hsi, hsz, hG⟩
  have HSI := Lib.hid hsi
  have HSZ := Lib.hid hsz
  have HG := Lib.hid hG
  clear hsi hsz hG
  go_wp2_with fail
  have hT : Taking w (w1.alloc (.cells Z 29)) w1.heap.size (w.heap.size + 1 + 1) (w.heap.size + 1) (fun i => w.heap.size + 1 + 2 + i) n (fun _ _ => false) := by
    have hz := HSZ.out
    simp only [World.size_alloc] at hz
    have hw0 : Below w.heap.size w (w.alloc (.cells Z 29)) := (Below.refl _ _).alloc (Nat.le_refl _) _
    have hsi := HSI.out
    have hbl : Below w.heap.size w w1 := hw0.trans ⟨hsi.os, hsi.tape, hsi.output, hsi.size, fun k hk => hsi.block k (by simp; omega)⟩
    have hzz : Z.size = 256 := by rw [← HA.out, sq_size]
    have hr0 : (w.alloc (.cells Z 29)).rowIs w.heap.size 29 256 (fun _ => .bool false) := by
      have := World.rowIs_alloc w Z 29 (fun _ => .bool false) (fun j hj => by rw [← HA.out]; exact sq_get _ j (by rwa [hzz] at hj))
      rwa [hzz] at this
    have hr1 : w1.rowIs w.heap.size 29 256 (fun _ => .bool false) := hr0.of_block (hsi.block _ (by simp))
    have hr2 : (w1.alloc (.cells Z 29)).rowIs w1.heap.size 29 256 (fun j => .bool false) := by
      have := World.rowIs_alloc w1 Z 29 (fun _ => .bool false) (fun j hj => by rw [← HA.out]; exact sq_get _ j (by rwa [hzz] at hj))
      rwa [hzz] at this
    have hG := HG.out
    simp only [World.size_alloc] at hG
    have hG2 := (hG.keep (F := fun _ => False) ((Keep.refl _ w1).alloc (.cells Z 29)) (fun h => h) (fun h => h) (fun _ _ h => h))
    exact ⟨hbl.alloc hbl.size _, ⟨hG2.obj, hG2.rows, hG2.each, hG2.inj, by omega, by omega, fun i hi => by omega⟩, Meets.none n, hr1.alloc _, hr2, by omega, by omega⟩
  have HT := Lib.hid hT
  clear hT h1
  generalize w1.alloc (.cells Z 29) = w2 at HT ⊢
  generalize w1.heap.size = g8 at HT ⊢
  go_loopg [9] L (fun gk i wr => ∃ k m, k ≤ L ∧ gk = L - k ∧ i = .int .i64 (k : Int) ∧ Taking w wr g8 (w.heap.size + 1 + 1) (w.heap.size + 1) (fun i => w.heap.size + 1 + 2 + i) n m)
  case atStart => exact ⟨0, _, Nat.zero_le _, rfl, rfl, HT.out⟩
  case round =>
    obtain ⟨k, m, hkL, rfl, rfl, hT⟩ := hrel
    have HT2 := Lib.hid hT
    clear hT
    by_cases hlt : k < L ∧ k < 60
    · obtain ⟨hk1, hk2⟩ := hlt
      have hk1' : (k : Int) < (L : Int) := by omega
      have hk2' : (k : Int) < 60 := by omega
      have hP := HP.out.below HT2.out.below
      have c1 := hP.fst k hk1
      have c2 := hP.snd k hk1
      have hadr := hP.addr k hk1
      subst hadr
      clear hP
      generalize X k = x at c1
      generalize Y k = y at c2
      go_wp2_with fail
      go_quiet (fail)
      obtain ⟨w5, hw5⟩ : ∃ w5, wr.drewN nq = w5 := ⟨_, rfl⟩
      have HT3 := Lib.hid (show Taking w w5 g8 (w.heap.size + 1 + 1) (w.heap.size + 1) (fun i => w.heap.size + 1 + 2 + i) n m from hw5 ▸ HT2.out.drewN nq)
      rw [hw5]
      clear hw5 c1 c2
      by_cases hin : isB n x = true ∧ isB n y = true ∧ x ≠ y
      · obtain ⟨hx, hy, hne⟩ := hin
        obtain ⟨a, rfl⟩ := Int.eq_ofNat_of_zero_le (isB_true.1 hx).1
        obtain ⟨c, rfl⟩ := Int.eq_ofNat_of_zero_le (isB_true.1 hy).1
        have han : a < n := by have := (isB_true.1 hx).2; omega
        have hcn : c < n := by have := (isB_true.1 hy).2; omega
        have hac : a ≠ c := by rintro rfl; exact hne rfl
        clear hx hy hne
        go_wp2_with fail
        refine (link_yes w5 w.heap.size _ _ n _ m a c HT3.out.graph han hcn hac).mono ?_
        rintro e w6 ⟨rfl, hg6, hk6⟩
        obtain ⟨hrow, hstep⟩ := HT3.out.step han hcn hac hn hg6 hk6
        have ha16 : a < 16 := by omega
        have hc16 : c < 16 := by omega
        have i1 : (a : Int) < 16 := by omega
        have i2 : (c : Int) < 16 := by omega
        have d1 : w6.cell? ⟨g8, a * 16 + c, none⟩ = some (.bool (m a c)) := by
          have := hrow.cell (i := a * 16 + c) (by omega)
          rw [ix_div hc16, ix_mod hc16] at this; exact this
        have d2 : w6.cell? ⟨g8, c * 16 + a, none⟩ = some (.bool (m c a)) := by
          have := hrow.cell (i := c * 16 + a) (by omega)
          rw [ix_div ha16, ix_mod ha16] at this; exact this
        have f1 : w6.frozen? ⟨g8, a * 16 + c, none⟩ = false := hrow.frozen _
        have f2 : w6.frozen? ⟨g8, c * 16 + a, none⟩ = false := hrow.frozen _
        have hnx : a * 16 + c ≠ c * 16 + a := by omega
        have d3 : ∀ v, (w6.setCell ⟨g8, a * 16 + c, none⟩ v).cell? ⟨g8, c * 16 + a, none⟩ = some (.bool (m c a)) := fun v => by
          rw [World.cell?_setCell_other _ _ _ _ (by intro e; injection e with _ e2 _; omega)]; exact d2
        have HST := Lib.hid hstep
        clear hg6 hk6 hrow hstep d2 hac hnx
        generalize m a c = q1 at d1
        generalize m c a = q2 at d3
        go_wp2_with fail
        go_roundg (L - (k + 1))
        case measure => omega
        case rel => exact ⟨k + 1, _, by omega, rfl, by go_num, HST.out⟩
      · have hno : isB n x = false ∨ isB n y = false ∨ x = y := by
          cases h1 : isB n x
          · exact .inl rfl
          · cases h2 : isB n y
            · exact .inr (.inl rfl)
            · by_cases h3 : x = y
              · exact .inr (.inr h3)
              · exact absurd ⟨h1, h2, h3⟩ hin
        have HNO := Lib.hid hno
        clear hno hin
        go_wp2_with fail
        refine (link_no w5 _ n _ x y HT3.out.graph.obj HNO.out).mono ?_
        rintro e w6 ⟨rfl, hw6⟩
        obtain rfl := hw6.symm
        go_wp2_with fail
        go_roundg (L - (k + 1))
        case measure => omega
        case rel => exact ⟨k + 1, m, by omega, rfl, by go_num, HT3.out⟩
    · obtain ⟨old, ho, hoz, _⟩ := HT2.out.out
      obtain ⟨R, hR, hRz, hRg⟩ := HT2.out.own
      have hRe : R = sq fun i k => .bool (m i k) := by
        apply Array.ext (by rw [hRz, sq_size])
        intro j h1 h2
        have g1 : R[j]? = some (Value.bool (m (j / 16) (j % 16))) := hRg j (by omega)
        have g2 : (sq fun i k => Value.bool (m i k))[j]? = some (Value.bool (m (j / 16) (j % 16))) := sq_get _ j (by omega)
        rw [← g2, Array.getElem?_eq_getElem h1, Array.getElem?_eq_getElem h2] at g1
        exact Option.some.inj g1
      have hone : R.all (·.oneCell') = true := by
        rw [hRe]
        refine Array.all_eq_true_iff_forall_mem.2 (fun v hv => ?_)
        simp only [sq, List.mem_toArray, List.mem_map] at hv
        obtain ⟨j, _, rfl⟩ := hv
        rfl
      have hw1 : Whole wr.drew g8 R := ⟨hR, hRz⟩
      have hw2 : Spare wr.drew w.heap.size R := ⟨⟨old, ho, by rw [hoz, hRz]⟩, hRz, hone⟩
      have hset : (wr.drew.setRow w.heap.size R).heap[w.heap.size]? = some (.cells R 29 (0, 0)) := setRow_heap wr.drew _ old R 29 (0, 0) ho
      have hbel : Below w.heap.size w (wr.drew.setRow w.heap.size R) := by
        have hb := HT2.out.below
        exact ⟨hb.os, hb.tape, hb.output, by rw [setRow_size]; exact hb.size, fun k hk => by rw [setRow_other _ _ _ _ (by omega)]; exact hb.block k hk⟩
      have hgr : Graph (wr.drew.setRow w.heap.size R) w.heap.size (w.heap.size + 1 + 1) (w.heap.size + 1) (fun i => w.heap.size + 1 + 2 + i) n m := by
        have n1 : ∀ i, i < n → w.heap.size ≠ w.heap.size + 1 + 2 + i := fun i _ => by omega
        have hk : Keep (fun k => k = w.heap.size) wr (wr.drew.setRow w.heap.size R) := ⟨rfl, rfl, rfl, by rw [setRow_size]; exact Nat.le_refl _, fun k _ hk => by rw [setRow_other _ _ _ _ hk]; rfl⟩
        exact HT2.out.graph.keep hk (by omega) (by omega) (fun i _ => by omega)
      have HM := Lib.hid HT2.out.meets
      have HRE := Lib.hid hRe
      have HSE := Lib.hid hset
      have HBE := Lib.hid hbel
      have HGR := Lib.hid hgr
      have hi29 : (Try.prog.info? 29).map (·.size) = some R.size := by rw [hRz]; exact size29
      have HI := Lib.hid hi29
      clear ho hoz hR hRz hRg hRe hone hset hbel hgr hi29
      have hlast : ∀ (W : World), True := fun _ => trivial
      clear hlast
      by_cases h1 : k < L
      · have hk1' : (k : Int) < (L : Int) := by omega
        have hk2' : ¬ (k : Int) < 60 := by omega
        go_wp2_with fail
        refine wp_region_any (by kernel_rfl) ?_
        change wpAny _ _ _ _ _ _ _ (World.drew _)
        refine wpAny_take (i := 0) (v := ?_) rfl (by kernel_rfl) (by kernel_rfl) (by kernel_rfl) (fun _ _ _ h => h) (Or.inl ⟨by rfl, ?_⟩) ?_
        rotate_left
        · intro w; go_simp; with_reducible rfl
        refine wpAny_take (i := 2) (v := ?_) rfl (by kernel_rfl) (by kernel_rfl) (by kernel_rfl) (fun _ _ _ h => h) (Or.inl ⟨by rfl, ?_⟩) ?_
        rotate_left
        · intro w; go_simp; with_reducible rfl
        refine wpAny_ready (rs := [1]) (by kernel_rfl) (by simp) ?_
        refine AllReady.cons rfl (fun K hK => ?_) AllReady.nil
        refine step_of_wp rfl (wp_load_row 29 _ rfl g8 rfl 29 R (0, 0) _ hw1.1 Try.underlying29 rfl HI.out ?_)
        go_simp
        refine hK _ _ ?_
        clear hK K
        refine wpAny_ready (rs := [3]) (by kernel_rfl) (by simp) ?_
        refine AllReady.cons rfl (fun K hK => ?_) AllReady.nil
        obtain ⟨⟨old, ho, hz⟩, hR, hone⟩ := hw2
        refine step_of_wp rfl (wp_store_row 29 (.tmp 5) (.tmp 67) rfl w.heap.size R rfl rfl 29 old ho HI.out hz hone ?_)
        refine hK _ _ ?_
        clear hK K
        refine wpAny_done (by kernel_rfl) ?_ _
        go_wp2_with fail
        refine bodyPost_ret (made_results _ _ w.heap.size R rfl HSE.out HI.out) rfl ⟨_, _, _, m, ?_, HGR.out, HM.out, HBE.out⟩
        rw [← HRE.out]; rfl
      · have hk1' : ¬ (k : Int) < (L : Int) := by omega
        go_wp2_with fail
        refine wp_region_any (by kernel_rfl) ?_
        change wpAny _ _ _ _ _ _ _ (World.drew _)
        refine wpAny_take (i := 0) (v := ?_) rfl (by kernel_rfl) (by kernel_rfl) (by kernel_rfl) (fun _ _ _ h => h) (Or.inl ⟨by rfl, ?_⟩) ?_
        rotate_left
        · intro w; go_simp; with_reducible rfl
        refine wpAny_take (i := 2) (v := ?_) rfl (by kernel_rfl) (by kernel_rfl) (by kernel_rfl) (fun _ _ _ h => h) (Or.inl ⟨by rfl, ?_⟩) ?_
        rotate_left
        · intro w; go_simp; with_reducible rfl
        refine wpAny_ready (rs := [1]) (by kernel_rfl) (by simp) ?_
        refine AllReady.cons rfl (fun K hK => ?_) AllReady.nil
        refine step_of_wp rfl (wp_load_row 29 _ rfl g8 rfl 29 R (0, 0) _ hw1.1 Try.underlying29 rfl HI.out ?_)
        go_simp
        refine hK _ _ ?_
        clear hK K
        refine wpAny_ready (rs := [3]) (by kernel_rfl) (by simp) ?_
        refine AllReady.cons rfl (fun K hK => ?_) AllReady.nil
        obtain ⟨⟨old, ho, hz⟩, hR, hone⟩ := hw2
        refine step_of_wp rfl (wp_store_row 29 (.tmp 5) (.tmp 67) rfl w.heap.size R rfl rfl 29 old ho HI.out hz hone ?_)
        refine hK _ _ ?_
        clear hK K
        refine wpAny_done (by kernel_rfl) ?_ _
        go_wp2_with fail
        refine bodyPost_ret (made_results _ _ w.heap.size R rfl HSE.out HI.out) rfl ⟨_, _, _, m, ?_, HGR.out, HM.out, HBE.out⟩
        rw [← HRE.out]; rfl
end Go.Proofs.Ytlnjnpedcbljcaa
