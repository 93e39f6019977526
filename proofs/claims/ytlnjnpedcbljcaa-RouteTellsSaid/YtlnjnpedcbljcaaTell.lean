/- RouteTells. -/
import Derived.Test.YtlnjnpedcbljcaaTellP
import Derived.Deep.RegionHeld3
import Derived.Deep.WholeRow
namespace Go.Proofs.Ytlnjnpedcbljcaa
open Go.RowKit RoutePlain

set_option maxRecDepth 100000 in
theorem tells_bad (n : Int) (l : Value) (w : World) (h : n < 0 ∨ 16 < n) : Calls Try.prog 3 #[.int .i64 n, l] w fun e w' => e = .returned (.bool true) ∧ Below w.heap.size w w' := by
  have H := Lib.hid h
  rcases h with h | h
  · go_enter Try.func3, Try.ntmps3
    go_wp2_with fail
    refine (new_no n w H.out).mono ?_
    rintro e w' ⟨rfl, hw⟩
    obtain rfl := hw.symm
    go_wp2_with fail
    refine (one_true w).mono ?_
    rintro e w' ⟨rfl, hb⟩
    go_wp2_with fail
    go_ret
    exact ⟨rfl, hb⟩
  · have h' : ¬ n < 0 := by omega
    go_enter Try.func3, Try.ntmps3
    go_wp2_with fail
    refine (new_no n w H.out).mono ?_
    rintro e w' ⟨rfl, hw⟩
    obtain rfl := hw.symm
    go_wp2_with fail
    refine (one_true w).mono ?_
    rintro e w' ⟨rfl, hb⟩
    go_wp2_with fail
    go_ret
    exact ⟨rfl, hb⟩

/-- All that the statement holds. -/
structure Ready (w W : World) (p mb : Nat) (rb : Nat → Nat) (n : Nat) (m : Nat → Nat → Bool) (g8 g9 g12 : Nat) (ps : List Nat) (v : Value) : Prop where
  below : Below w.heap.size w W
  graph : Graph W w.heap.size p mb rb n m
  meets : Meets n m
  who : W.rowIs g8 29 256 (fun j => .bool (m (j / 16) (j % 16)))
  sums : W.rowIs g9 33 256 (fun j => .int .i64 (if j / 16 < n ∧ j % 16 < n then far m n (j / 16) (j % 16) else -1))
  least : AllLeast m n ps
  parts : Owns W w.heap.size 3 1 (.slice (some ⟨g12, 0, none⟩) n n) n (ints ps)
  links : Owns W w.heap.size 41 2 v (lks m n n).length (pairs (lks m n n))
section
variable {w W W' : World} {p mb : Nat} {rb : Nat → Nat} {n : Nat} {m : Nat → Nat → Bool} {g8 g9 g12 : Nat} {ps : List Nat} {v : Value}
theorem Ready.keep (h : Ready w W p mb rb n m g8 g9 g12 ps v) (hb : Below W.heap.size W W') : Ready w W' p mb rb n m g8 g9 g12 ps v :=
  ⟨h.below.trans (hb.mono h.below.size), h.graph.below hb, h.meets, h.who.of_block (hb.block _ h.who.lt), h.sums.of_block (hb.block _ h.sums.lt), h.least, h.parts.of_block (fun k hk => hb.block k (h.parts.block hk).2.1), h.links.of_block (fun k hk => hb.block k (h.links.block hk).2.1)⟩
theorem Ready.drew (h : Ready w W p mb rb n m g8 g9 g12 ps v) : Ready w W.drew p mb rb n m g8 g9 g12 ps v := h.keep ((Below.refl _ W).drew)
theorem Ready.drewN (h : Ready w W p mb rb n m g8 g9 g12 ps v) (k : Nat) : Ready w (W.drewN k) p mb rb n m g8 g9 g12 ps v := h.keep ⟨rfl, rfl, rfl, Nat.le_refl _, fun _ _ => rfl⟩
theorem Ready.meet_ (h : Ready w W p mb rb n m g8 g9 g12 ps v) {i k : Nat} (hi : i < 16) (hk : k < 16) : W.cell? ⟨g8, i * 16 + k, none⟩ = some (.bool (m i k)) := by
  have := h.who.cell (i := i * 16 + k) (by omega)
  rw [ix_div hk, ix_mod hk] at this; exact this
theorem Ready.sum_ (h : Ready w W p mb rb n m g8 g9 g12 ps v) {i k : Nat} (hi : i < n) (hk : k < n) (hn : n ≤ 16) : W.cell? ⟨g9, i * 16 + k, none⟩ = some (.int .i64 (far m n i k)) := by
  have := h.sums.cell (i := i * 16 + k) (by omega)
  rw [ix_div (by omega), ix_mod (by omega), if_pos ⟨hi, hk⟩] at this; exact this
theorem Ready.part_ (h : Ready w W p mb rb n m g8 g9 g12 ps v) {i q : Nat} (hq : ps[i]? = some q) : W.cell? ⟨g12, i, none⟩ = some (.int .i64 (q : Int)) := by
  have hi : i < n := by rw [← h.least.1]; exact (List.getElem?_eq_some_iff.1 hq).1
  obtain ⟨g', off', cap', hv', _, _, _, hcells, _⟩ := h.parts.form (by omega)
  injection hv' with e1 e2 e3
  injection e1 with e1
  injection e1 with e1 e4 _
  subst e1; subst e4
  have := hcells i _ (ints_get hq); simpa using this
end
theorem ref_far_of {M : Array Value} {m : Nat → Nat → Bool} (hM : (sq fun i k => Value.bool (m i k)) = M) (w : World) (n : Nat) (hn : n ≤ 16) :
    Calls Try.prog 7 #[.agg M, .int .i64 n] w fun e w' => e = .returned (.agg (sq fun i k => .int .i64 (if i < n ∧ k < n then far m n i k else -1))) ∧ Below w.heap.size w w' := by
  rw [← hM]; exact ref_far w m n hn
theorem all_one {f : Nat → Nat → Value} (h : ∀ i k, (f i k).oneCell' = true) : (sq f).all (·.oneCell') = true := by
  refine Array.all_eq_true_iff_forall_mem.2 (fun v hv => ?_)
  simp only [sq, List.mem_toArray, List.mem_map] at hv
  obtain ⟨j, _, rfl⟩ := hv
  exact h _ _

@[go_sem] theorem build41 (a b : Int) (w : World) : (Instr.build 41 #[(0, .int .i64 a), (1, .int .i64 b)]).run Try.prog w = .ok (.agg #[.int .i64 a, .int .i64 b]) w := run_build w 41 _ _ (by kernel_rfl)
@[go_sem] theorem eq41 (a b c d : Int) (w : World) : (Op.equalIn 10000 41 (.agg #[.int .i64 a, .int .i64 b]) (.agg #[.int .i64 c, .int .i64 d])).run Try.prog w = .ok (a == c && b == d) w := by
  have u3 := Try.underlying3
  have a3 := Try.isAgg3
  have z3 := Try.sizeOf3
  rw [show (10000 : Nat) = 9999 + 1 from rfl, Op.equalIn]
  simp only [Sem.run_bind, run_underlying Try.underlying41, Result.andThen_ok]
  simp only [Std.Legacy.Range.forIn_eq_forIn_range', Std.Legacy.Range.size, Nat.sub_zero, Nat.add_sub_cancel, Nat.div_one, List.range'_succ, List.range'_zero, List.forIn_cons, List.forIn_nil]
  go_simp
  by_cases h1 : a = c <;> by_cases h2 : b = d <;> simp [h1, h2]
theorem far_in_of {m : Nat → Nat → Bool} {n a b : Nat} {fv : Int} (h : far m n a b = fv) (w : World) (B0 p mb : Nat) (rb : Nat → Nat) (hG : Graph w B0 p mb rb n m) (ha : a < n) (hb : b < n) (hn : n ≤ 16) :
    Calls Try.prog 11 #[.pointer (some ⟨p, 0, none⟩), .int .i64 a, .int .i64 b] w fun e w' => e = .returned (.int .i64 fv) ∧ Below w.heap.size w w' := by
  rw [← h]; exact far_in w B0 p mb n rb m a b hG ha hb hn
theorem linked_of {m : Nat → Nat → Bool} {n a b : Nat} {mv : Bool} (h : m a b = mv) (w : World) (B0 p mb : Nat) (rb : Nat → Nat) (hG : Graph w B0 p mb rb n m) (ha : a < n) (hb : b < n) :
    Calls Try.prog 12 #[.pointer (some ⟨p, 0, none⟩), .int .i64 a, .int .i64 b] w fun e w' => e = .returned (.bool mv) ∧ w' = w := by
  rw [← h]; exact linked_yes w B0 p mb n rb m a b hG ha hb
theorem ready_S {w W : World} {p mb : Nat} {rb : Nat → Nat} {n : Nat} {m : Nat → Nat → Bool} {g8 g9 g12 : Nat} {ps : List Nat} {v : Value} {a b : Nat} {fv : Int} {mv : Bool}
    (h : Ready w W p mb rb n m g8 g9 g12 ps v) (ha : a < n) (hb : b < n) (hn : n ≤ 16) (hf : far m n a b = fv) (hm : m a b = mv) :
    W.cell? ⟨g9, a * 16 + b, none⟩ = some (.int .i64 fv) ∧ W.cell? ⟨g8, a * 16 + b, none⟩ = some (.bool mv) ∧ Ready w W p mb rb n m g8 g9 g12 ps v :=
  ⟨by rw [← hf]; exact h.sum_ ha hb hn, by rw [← hm]; exact h.meet_ (by omega) (by omega), h⟩

theorem S_graph {w W : World} {p mb : Nat} {rb : Nat → Nat} {n : Nat} {m : Nat → Nat → Bool} {g8 g9 g12 : Nat} {ps : List Nat} {v : Value} {a b : Nat} {fv : Int} {mv : Bool}
    (h : W.cell? ⟨g9, a * 16 + b, none⟩ = some (.int .i64 fv) ∧ W.cell? ⟨g8, a * 16 + b, none⟩ = some (.bool mv) ∧ Ready w W p mb rb n m g8 g9 g12 ps v) : Graph W w.heap.size p mb rb n m := h.2.2.graph

set_option maxHeartbeats 2000000 in
set_option maxRecDepth 100000 in
theorem tells_ok (n : Nat) (hn : n ≤ 16) (A : Option Addr) (b off L C : Nat) (X Y : Nat → Int) (w : World) (hp : Pairs w A b off L X Y) (hL : L ≤ 9223372036854775807) :
    Calls Try.prog 3 #[.int .i64 n, .slice A L C] w fun e w' => e = .returned (.bool true) ∧ Below w.heap.size w w' := by
  have hz9 := zero29
  have hz3 := zero33
  obtain ⟨Z9, hZ9⟩ : ∃ Z, (sq fun _ _ => Value.bool false) = Z := ⟨_, rfl⟩
  obtain ⟨Z3, hZ3⟩ : ∃ Z, (sq fun _ _ => Value.int .i64 0) = Z := ⟨_, rfl⟩
  rw [hZ9] at hz9
  rw [hZ3] at hz3
  have s9 : Z9.size = 256 := by rw [← hZ9, sq_size]
  have s3 : Z3.size = 256 := by rw [← hZ3, sq_size]
  have HP := Lib.hid hp
  have HS9 := Lib.hid s9
  have HS3 := Lib.hid s3
  clear hZ9 hZ3 hp s9 s3
  have h0 : ¬ (n : Int) < 0 := by omega
  have h16 : ¬ (16 : Int) < (n : Int) := by omega
  go_enter Try.func3, Try.ntmps3
  go_wp2_with fail
  refine (made_pairs w n hn A b off L C X Y HP.out hL).mono ?_
  rintro e w1 ⟨p, mb, rb, m, rfl, hG, hM, hB⟩
  have HG := Lib.hid hG
  have HM := Lib.hid hM
  have HB := Lib.hid hB
  clear hG hM hB
  obtain ⟨M, hMM⟩ : ∃ M, (sq fun i k => Value.bool (m i k)) = M := ⟨_, rfl⟩
  have sM : M.size = 256 := by rw [← hMM, sq_size]
  have oM : M.all (·.oneCell') = true := by rw [← hMM]; exact all_one (fun _ _ => rfl)
  rw [hMM]
  have HMM := Lib.hid hMM
  have HSM := Lib.hid (And.intro sM oM)
  clear hMM sM oM
  have i29 : Hid ((Try.prog.info? 29).map (·.size) = some M.size) := by show _ = _; rw [HSM.out.1]; exact size29
  go_wp2_with (first | (refine wpList_store_row rfl 29 (.tmp 8) (.tmp 47) rfl w1.heap.size M rfl rfl 29 Z9 (heap_alloc_new w1 _) i29.out (by rw [HS9.out, HSM.out.1]) HSM.out.2 ?_) | (refine wpList_load_row rfl 29 (.tmp 8) rfl w1.heap.size rfl 29 M (0, 0) _ (setRow_heap (w1.alloc _) _ Z9 M 29 (0, 0) (heap_alloc_new w1 _)) Try.underlying29 rfl i29.out ?_))
  clear hz9
  rw [World.setRow_alloc_new]
  have hb2 : Below w.heap.size w (w1.alloc (.cells M 29)) := HB.out.alloc HB.out.size _
  have hg2 := HG.out.below ((Below.refl w1.heap.size w1).alloc (Nat.le_refl _) (.cells M 29))
  have hr2 : (w1.alloc (.cells M 29)).rowIs w1.heap.size 29 256 (fun j => .bool (m (j / 16) (j % 16))) := by
    have := World.rowIs_alloc w1 M 29 (fun j => .bool (m (j / 16) (j % 16))) (fun j hj => by rw [← HMM.out]; exact sq_get _ j (by rwa [HSM.out.1] at hj))
    rwa [HSM.out.1] at this
  have HB2 := Lib.hid hb2
  have HG2 := Lib.hid hg2
  have HR2 := Lib.hid hr2
  clear hb2 hg2 hr2
  generalize w1.alloc (.cells M 29) = w2 at HB2 HG2 HR2 ⊢
  generalize w1.heap.size = g8 at HR2 ⊢
  refine (ref_far_of HMM.out w2 n hn).mono ?_
  obtain ⟨D, hDD⟩ : ∃ D, (sq fun i k => Value.int .i64 (if i < n ∧ k < n then far m n i k else -1)) = D := ⟨_, rfl⟩
  have sD : D.size = 256 := by rw [← hDD, sq_size]
  have oD : D.all (·.oneCell') = true := by rw [← hDD]; exact all_one (fun _ _ => rfl)
  rw [hDD]
  have HDD := Lib.hid hDD
  have HSD := Lib.hid (And.intro sD oD)
  clear hDD sD oD
  have i33 : Hid ((Try.prog.info? 33).map (·.size) = some D.size) := by show _ = _; rw [HSD.out.1]; exact size33
  rintro e w3 ⟨rfl, hb3⟩
  have HB3 := Lib.hid (HB2.out.trans (hb3.mono HB2.out.size))
  have HG3 := Lib.hid (HG2.out.below hb3)
  have HR3 := Lib.hid (HR2.out.of_block (w' := w3) (hb3.block _ HR2.out.lt))
  clear hb3
  go_wp2_with (refine wpList_store_row rfl 33 (.tmp 9) (.tmp 50) rfl w3.heap.size D rfl rfl 33 Z3 (heap_alloc_new w3 _) i33.out (by rw [HS3.out, HSD.out.1]) HSD.out.2 ?_)
  clear hz3
  rw [World.setRow_alloc_new]
  have hb4 : Below w.heap.size w (w3.alloc (.cells D 33)) := HB3.out.alloc HB3.out.size _
  have hbl := (Below.refl w3.heap.size w3).alloc (Nat.le_refl _) (.cells D 33)
  have hg4 := HG3.out.below hbl
  have hr4 : (w3.alloc (.cells D 33)).rowIs w3.heap.size 33 256 (fun j => .int .i64 (if j / 16 < n ∧ j % 16 < n then far m n (j / 16) (j % 16) else -1)) := by
    have := World.rowIs_alloc w3 D 33 (fun j => .int .i64 (if j / 16 < n ∧ j % 16 < n then far m n (j / 16) (j % 16) else -1)) (fun j hj => by rw [← HDD.out]; exact sq_get _ j (by rwa [HSD.out.1] at hj))
    rwa [HSD.out.1] at this
  have HB4 := Lib.hid hb4
  have HG4 := Lib.hid hg4
  have HD4 := Lib.hid hr4
  have HR4 := Lib.hid (HR3.out.alloc (.cells D 33))
  clear hb4 hg4 hr4 hbl
  generalize w3.alloc (.cells D 33) = w4 at HB4 HG4 HD4 HR4 ⊢
  generalize w3.heap.size = g9 at HD4 ⊢
  refine (len_graph w4 p n mb HG4.out.obj).mono ?_
  rintro e w' ⟨rfl, hw⟩
  obtain rfl := hw.symm
  go_wp2_with fail
  refine (parts_graph w4 _ p mb n rb m HG4.out hn).mono ?_
  rintro e w5 ⟨g12, ps, rfl, hal, ho5, hb5⟩
  have HAL := Lib.hid hal
  have HO5 := Lib.hid (ho5.mono HB4.out.size)
  have HB5 := Lib.hid hb5
  have HG5 := Lib.hid (HG4.out.below hb5)
  clear hal ho5 hb5
  go_wp2_with fail
  refine (links_graph w5 _ p mb n rb m HG5.out hn).mono ?_
  rintro e w6 ⟨v13, rfl, ho6, hb6⟩
  have hbw5 : w4.heap.size ≤ w5.heap.size := HB5.out.size
  have hready : Ready w w6 p mb rb n m g8 g9 g12 ps v13 :=
    ⟨(HB4.out.trans (HB5.out.mono HB4.out.size)).trans (hb6.mono (Nat.le_trans HB4.out.size hbw5)), HG5.out.below hb6, HM.out, (HR4.out.of_block (HB5.out.block _ HR4.out.lt)).of_block (hb6.block _ (Nat.lt_of_lt_of_le HR4.out.lt hbw5)),
      (HD4.out.of_block (HB5.out.block _ HD4.out.lt)).of_block (hb6.block _ (Nat.lt_of_lt_of_le HD4.out.lt hbw5)), HAL.out, HO5.out.of_block (fun k hk => hb6.block k (HO5.out.block hk).2.1), ho6.mono (Nat.le_trans HB4.out.size hbw5)⟩
  obtain ⟨A13, c13, rfl⟩ := hready.links.len
  obtain ⟨K, hK⟩ : ∃ K, (lks m n n).length = K := ⟨_, rfl⟩
  have hK300 : K ≤ 300 := by
    have h1 := lks_len m n n
    have h2 : n * n ≤ 16 * 16 := Nat.mul_le_mul hn hn
    omega
  rw [hK] at hready ⊢
  have HK := Lib.hid hK
  have HRD := Lib.hid hready
  clear ho6 hb6 hready hK
  go_wp2_with fail
  go_loopg [10, 11, 14, 15] n (fun gk s10 s11 s14 s15 wr => ∃ a, a ≤ n ∧ gk = n - a ∧ s15 = .int .i64 (a : Int) ∧ s10 = .int .i64 (allMax m n a) ∧ s11 = .bool (wholeTo m n a) ∧ s14 = .int .i64 (((lks m n a).length : Nat) : Int) ∧
    Ready w wr p mb rb n m g8 g9 g12 ps (.slice A13 K c13))
  case atStart => exact ⟨0, Nat.zero_le _, rfl, rfl, rfl, rfl, rfl, HRD.out⟩
  case round =>
    obtain ⟨a, han, rfl, rfl, rfl, rfl, rfl, hR⟩ := hrel
    have HR := Lib.hid hR
    clear hR
    have hab := allMax_bd m n a
    have hll := lks_len m n a
    have hl2 : a * n ≤ 16 * 16 := Nat.mul_le_mul (by omega) hn
    by_cases hla : a < n
    · have hla' : (a : Int) < (n : Int) := by omega
      go_wp2_with fail
      obtain ⟨wo, rfl⟩ : ∃ wo : World, wo = wr := ⟨_, rfl⟩
      go_loopg [10, 11, 14, 16, 17] n (fun gk s10 s11 s14 s16 s17 wr => ∃ b, b ≤ n ∧ gk = n - b ∧ s17 = .int .i64 (b : Int) ∧ s10 = .int .i64 (rowMax m n a b (allMax m n a)) ∧ s11 = .bool (wholeTo m n a && allR m n a b) ∧
        s14 = .int .i64 (((lks m n a ++ rowL m a b).length : Nat) : Int) ∧ s16 = .int .i64 ((leastTo m n a b : Nat) : Int) ∧ Ready w wr p mb rb n m g8 g9 g12 ps (.slice A13 K c13))
      case atStart => exact ⟨0, Nat.zero_le _, rfl, rfl, rfl, by simp [allR], by simp [rowL], rfl, HR.out⟩
      case round =>
        obtain ⟨b, hbn, rfl, rfl, rfl, rfl, rfl, rfl, hR⟩ := hrel
        have hrm := rowMax_bd m n a b _ hab.1 hab.2
        have hrl := rowL_len m a b
        have hle := leastTo_le m n a b
        by_cases hlb : b < n
        · have hlb' : (b : Int) < (n : Int) := by omega
          have ha16 : (a : Int) < 16 := by omega
          have hb16 : (b : Int) < 16 := by omega
          obtain ⟨fv, hfv⟩ : ∃ fv, far m n a b = fv := ⟨_, rfl⟩
          obtain ⟨mv, hmv⟩ : ∃ mv, m a b = mv := ⟨_, rfl⟩
          have hfm : (fv == 1) = mv := by rw [← hfv, ← hmv]; exact far_one hR.meets hla hlb
          have hfl := far_lo m n a b
          rw [hfv] at hfl
          obtain ⟨hS1, hS2, _⟩ := ready_S hR hla hlb hn hfv hmv
          have HFV := Lib.hid hfv
          have HMV := Lib.hid hmv
          have HR2 := Lib.hid hR
          have H1 := Lib.hid (show rowMax m n a (b + 1) (allMax m n a) = max (rowMax m n a b (allMax m n a)) fv by rw [← hfv]; rfl)
          have H2 := Lib.hid (show (wholeTo m n a && allR m n a (b + 1)) = ((wholeTo m n a && allR m n a b) && decide (0 ≤ fv)) by rw [allR_succ, hfv, Bool.and_assoc])
          have H3 := Lib.hid (show leastTo m n a (b + 1) = if 0 ≤ fv then min (leastTo m n a b) b else leastTo m n a b by rw [← hfv]; rfl)
          have H4 := Lib.hid (show rowL m a (b + 1) = rowL m a b ++ if a < b ∧ mv = true then [(a, b)] else [] by rw [← hmv]; exact rowL_succ m a b)
          have H5 := Lib.hid (fun (h1 : a < b) (h2 : mv = true) => lks_next (m := m) hla hlb h1 (by rw [hmv]; exact h2))
          have hlen : (lks m n a ++ rowL m a b).length ≤ 300 := by rw [List.length_append]; omega
          clear hfv hmv
          generalize rowMax m n a b (allMax m n a) = x10 at *
          generalize (wholeTo m n a && allR m n a b) = x11 at *
          generalize hx14 : (lks m n a ++ rowL m a b).length = x14 at *
          generalize leastTo m n a b = x16 at *
          have HX14 := Lib.hid hx14
          clear hx14
          go_wp2_with fail
          have hS0 := ready_S HR2.out.drew hla hlb hn HFV.out HMV.out
          have hs3 := hS0.2.2
          go_region_held3 (fun W => W.cell? ⟨g9, a * 16 + b, none⟩ = some (.int .i64 fv) ∧ W.cell? ⟨g8, a * 16 + b, none⟩ = some (.bool mv) ∧ Ready w W p mb rb n m g8 g9 g12 ps (.slice A13 K c13))
            (first | exact hS0 | go_keep | (exact ready_S (Ready.keep (by assumption) (by assumption)) hla hlb hn HFV.out HMV.out))
            (first
              | (go_at_call 11; refine (far_in_of HFV.out _ w.heap.size p mb rb (S_graph (w := w) (g8 := g8) (g9 := g9) (g12 := g12) (ps := ps) (v := .slice A13 K c13) (a := a) (b := b) (fv := fv) (mv := mv) (by first | assumption | (refine ⟨?_, ?_, ?_⟩ <;> assumption))) hla hlb hn).mono ?_; rintro e w' ⟨rfl, hbl⟩)
              | (go_at_call 12; refine (linked_of HMV.out _ w.heap.size p mb rb (S_graph (w := w) (g8 := g8) (g9 := g9) (g12 := g12) (ps := ps) (v := .slice A13 K c13) (a := a) (b := b) (fv := fv) (mv := mv) (by first | assumption | (refine ⟨?_, ?_, ?_⟩ <;> assumption))) hla hlb).mono ?_; rintro e w' ⟨rfl, rfl⟩))
          obtain ⟨d1, d2, d3⟩ : w'.cell? ⟨g9, a * 16 + b, none⟩ = some (.int .i64 fv) ∧ w'.cell? ⟨g8, a * 16 + b, none⟩ = some (.bool mv) ∧ Ready w w' p mb rb n m g8 g9 g12 ps (.slice A13 K c13) := by assumption
          have HD3 := Lib.hid d3
          clear d3 hS0 hs3 hS1 hS2 hR hbl hfm
          by_cases hpush : a < b ∧ mv = true
          · obtain ⟨hab1, rfl⟩ := hpush
            have hab2 : (a : Int) < (b : Int) := by omega
            have hnx := H5.out hab1 rfl
            have hx14K : x14 < K := by
              have := (List.getElem?_eq_some_iff.1 hnx).1
              rw [HK.out] at this; exact this
            obtain ⟨g', off', cap', hv', _, _, _, hcells, _⟩ := HD3.out.links.form (by rw [HK.out]; omega)
            rw [HK.out] at hv'
            injection hv' with e1 e2 e3
            subst e1; subst e3
            obtain ⟨q1, q2⟩ := pairs_get _ _ _ _ hnx
            have k1 : w'.cell? ⟨g', off' + x14 * 2, none⟩ = some (.int .i64 (a : Int)) := hcells _ _ q1
            have k2 : w'.cell? ⟨g', off' + x14 * 2 + 1, none⟩ = some (.int .i64 (b : Int)) := hcells _ _ q2
            have hxk : (x14 : Int) < (K : Int) := by omega
            have hxk2 : ¬ (K : Int) ≤ (x14 : Int) := by omega
            have H14 := Lib.hid (show (lks m n a ++ rowL m a (b + 1)).length = x14 + 1 by rw [H4.out, if_pos ⟨hab1, rfl⟩, ← List.append_assoc, List.length_append, HX14.out]; rfl)
            clear hcells q1 q2 hnx
            by_cases h0 : 0 ≤ fv <;> cases x11
            all_goals
              go_wp2_with fail
              all_goals
                go_roundg (n - (b + 1))
                case measure => omega
                case rel => exact ⟨b + 1, by omega, rfl, by go_num, congrArg (Value.int .i64) (by rw [H1.out]; omega), congrArg Value.bool (by rw [H2.out]; simp [h0]), congrArg (Value.int .i64) (by rw [H14.out]; omega), congrArg (Value.int .i64) (by rw [H3.out]; first | (rw [if_pos (by omega)]; omega) | rw [if_neg (by omega)]), HD3.out⟩
          · have H14 := Lib.hid (show (lks m n a ++ rowL m a (b + 1)).length = x14 by rw [H4.out, if_neg hpush, List.append_nil, HX14.out])
            by_cases hab1 : a < b
            · have hab2 : (a : Int) < (b : Int) := by omega
              obtain rfl : mv = false := by cases mv; rfl; exact absurd ⟨hab1, rfl⟩ hpush
              clear hpush
              by_cases h0 : 0 ≤ fv <;> cases x11
              all_goals
                go_wp2_with fail
                all_goals
                  go_roundg (n - (b + 1))
                  case measure => omega
                  case rel => exact ⟨b + 1, by omega, rfl, by go_num, congrArg (Value.int .i64) (by rw [H1.out]; omega), congrArg Value.bool (by rw [H2.out]; simp [h0]), congrArg (Value.int .i64) (by rw [H14.out]), congrArg (Value.int .i64) (by rw [H3.out]; first | (rw [if_pos (by omega)]; omega) | rw [if_neg (by omega)]), HD3.out⟩
            · have hab2 : ¬ (a : Int) < (b : Int) := by omega
              clear hpush
              by_cases h0 : 0 ≤ fv <;> cases x11
              all_goals
                go_wp2_with fail
                all_goals
                  go_roundg (n - (b + 1))
                  case measure => omega
                  case rel => exact ⟨b + 1, by omega, rfl, by go_num, congrArg (Value.int .i64) (by rw [H1.out]; omega), congrArg Value.bool (by rw [H2.out]; simp [h0]), congrArg (Value.int .i64) (by rw [H14.out]), congrArg (Value.int .i64) (by rw [H3.out]; first | (rw [if_pos (by omega)]; omega) | rw [if_neg (by omega)]), HD3.out⟩
        · obtain rfl : n = b := by omega
          obtain ⟨q, hq⟩ : ∃ q, ps[a]? = some q := ⟨_, List.getElem?_eq_getElem (by rw [hR.least.1]; exact hla)⟩
          have hqe : leastTo m n a n = q := leastTo_all hR.meets (hR.least.2 a q hq) hla
          have hc := hR.part_ hq
          have H1 := Lib.hid (show allMax m n (a + 1) = rowMax m n a n (allMax m n a) from rfl)
          have H2 := Lib.hid (wholeTo_succ m n a)
          have H4 := Lib.hid (lks_succ m n a)
          have HR2 := Lib.hid hR
          rw [hqe] at hle ⊢
          clear hqe hq hR
          generalize rowMax m n a n (allMax m n a) = x10 at *
          generalize (wholeTo m n a && allR m n a n) = x11 at *
          generalize hx14 : (lks m n a ++ rowL m a n).length = x14 at *
          have HX14 := Lib.hid hx14
          clear hx14
          go_wp2_with fail
          go_roundg (n - (a + 1))
          case measure => omega
          case rel => exact ⟨a + 1, by omega, rfl, by go_num, by rw [H1.out], by rw [H2.out], by rw [H4.out, HX14.out], HR2.out⟩
    · obtain rfl : n = a := by omega
      have hne : K = (lks m n n).length := HK.out.symm
      have HNE := Lib.hid hne
      have hx14 : (lks m n n).length = K := HK.out
      rw [hx14]
      clear hne hx14 hll
      generalize hx10 : allMax m n n = x10 at *
      generalize hx11 : wholeTo m n n = x11 at *
      have HX10 := Lib.hid hx10
      have HX11 := Lib.hid hx11
      clear hx10 hx11 hla hl2 han
      go_wp2_with fail
      go_loopg [18] L (fun gk s18 wr => ∃ k, k ≤ L ∧ gk = L - k ∧ s18 = .int .i64 (k : Int) ∧ Ready w wr p mb rb n m g8 g9 g12 ps (.slice A13 K c13))
      case atStart => exact ⟨0, Nat.zero_le _, rfl, rfl, HR.out⟩
      case round =>
        obtain ⟨k, hkL, rfl, rfl, hR⟩ := hrel
        have HR2 := Lib.hid hR
        by_cases hlt : k < L ∧ k < 60
        · obtain ⟨hk1, hk2⟩ := hlt
          have hk1' : (k : Int) < (L : Int) := by omega
          have hk2' : (k : Int) < 60 := by omega
          have hP := HP.out.below hR.below
          have c1 := hP.fst k hk1
          have c2 := hP.snd k hk1
          have hadr := hP.addr k hk1
          subst hadr
          clear hP hR
          generalize X k = x at c1
          generalize Y k = y at c2
          go_wp2_with fail
          go_quiet (fail)
          obtain ⟨w5, hw5⟩ : ∃ w5, wr.drewN nq = w5 := ⟨_, rfl⟩
          have HR5 := Lib.hid (hw5 ▸ HR2.out.drewN nq)
          rw [hw5]
          clear hw5 c1 c2
          by_cases hin : (0 ≤ x ∧ x < n) ∧ 0 ≤ y ∧ y < n
          · obtain ⟨⟨i1, i2⟩, i3, i4⟩ := hin
            go_wp2_with fail
            go_roundg (L - (k + 1))
            case measure => omega
            case rel => exact ⟨k + 1, by omega, rfl, by go_num, HR5.out⟩
          · have HNO := Lib.hid (show isB n x = false ∨ isB n y = false by
              cases h1 : isB n x
              · exact .inl rfl
              · cases h2 : isB n y
                · exact .inr rfl
                · exact absurd ⟨isB_true.1 h1, isB_true.1 h2⟩ hin)
            have HNO3 := Lib.hid (show isB n x = false ∨ isB n y = false ∨ x = y from HNO.out.imp id .inl)
            have hc : ¬ 0 ≤ x ∨ (0 ≤ x ∧ ¬ x < n) ∨ (0 ≤ x ∧ x < n ∧ ¬ 0 ≤ y) ∨ (0 ≤ x ∧ x < n ∧ 0 ≤ y ∧ ¬ y < n) := by omega
            clear hin
            rcases hc with h1 | ⟨h1, h2⟩ | ⟨h1, h2, h3⟩ | ⟨h1, h2, h3, h4⟩
            all_goals
              go_wp2_with fail
              refine (far_out w5 _ n _ x y HR5.out.graph.obj HNO.out).mono ?_
              rintro e w6 ⟨rfl, hw6⟩
              obtain rfl := hw6.symm
              go_wp2_with fail
              refine (linked_no w5 _ n _ x y HR5.out.graph.obj HNO.out).mono ?_
              rintro e w6 ⟨rfl, hw6⟩
              obtain rfl := hw6.symm
              go_wp2_with fail
              refine (way_out w5 _ n _ x y HR5.out.graph.obj HNO.out).mono ?_
              rintro e w6 ⟨rfl, hw6⟩
              obtain rfl := hw6.symm
              go_wp2_with fail
              refine (link_no w5 _ n _ x y HR5.out.graph.obj HNO3.out).mono ?_
              rintro e w6 ⟨rfl, hw6⟩
              obtain rfl := hw6.symm
              go_wp2_with fail
              go_roundg (L - (k + 1))
              case measure => omega
              case rel => exact ⟨k + 1, by omega, rfl, by go_num, HR5.out⟩
        · clear hR
          have hc : ¬ k < L ∨ (k < L ∧ ¬ k < 60) := by omega
          clear hlt
          rcases hc with h1 | ⟨h1, h2⟩
          · have h1' : ¬ (k : Int) < (L : Int) := by omega
            go_wp2_with fail
            refine (wide_graph wr _ p mb n rb m HR2.out.graph hn).mono ?_
            rw [HX10.out]
            rintro e w6 ⟨rfl, hb6⟩
            have HR6 := Lib.hid (HR2.out.keep hb6)
            clear hb6
            go_wp2_with fail
            refine (whole_graph w6 _ p mb n rb m HR6.out.graph hn).mono ?_
            rintro e w7 ⟨qs, rfl, hal, hb7⟩
            rw [whole_is HR6.out.meets hal hn, HX11.out]
            have HR7 := Lib.hid (HR6.out.keep hb7)
            clear hb7 hal
            go_wp2_with fail
            refine (one_true w7).mono ?_
            rintro e w8 ⟨rfl, hb8⟩
            have HB8 := Lib.hid (HR7.out.keep hb8).below
            clear hb8
            go_wp2_with fail
            go_ret
            exact ⟨rfl, HB8.out⟩
          · have h1' : (k : Int) < (L : Int) := by omega
            have h2' : ¬ (k : Int) < 60 := by omega
            go_wp2_with fail
            refine (wide_graph wr _ p mb n rb m HR2.out.graph hn).mono ?_
            rw [HX10.out]
            rintro e w6 ⟨rfl, hb6⟩
            have HR6 := Lib.hid (HR2.out.keep hb6)
            clear hb6
            go_wp2_with fail
            refine (whole_graph w6 _ p mb n rb m HR6.out.graph hn).mono ?_
            rintro e w7 ⟨qs, rfl, hal, hb7⟩
            rw [whole_is HR6.out.meets hal hn, HX11.out]
            have HR7 := Lib.hid (HR6.out.keep hb7)
            clear hb7 hal
            go_wp2_with fail
            refine (one_true w7).mono ?_
            rintro e w8 ⟨rfl, hb8⟩
            have HB8 := Lib.hid (HR7.out.keep hb8).below
            clear hb8
            go_wp2_with fail
            go_ret
            exact ⟨rfl, HB8.out⟩
end Go.Proofs.Ytlnjnpedcbljcaa
