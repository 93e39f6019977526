/- one: three in a row. -/
import Derived.Test.YtlnjnpedcbljcaaMade
namespace Go.Proofs.Ytlnjnpedcbljcaa
open Go.RowKit RoutePlain

def m3 : Nat → Nat → Bool := meet (meet (fun _ _ => false) 0 1) 2 1
theorem far3 : far m3 3 0 2 = 2 := by decide
theorem wide3 : allMax m3 3 3 = 2 := by decide
theorem links3 : (lks m3 3 3).length = 2 := by decide
theorem zero3_far : ∀ i, i < 3 → 0 ≤ far m3 3 0 i := by decide
theorem parts3 {ps : List Nat} (h : AllLeast m3 3 ps) : (ps.any fun p => decide (0 < p)) = false := by
  rw [List.any_eq_false]
  intro p hp
  obtain ⟨j, hj, rfl⟩ := List.mem_iff_getElem.1 hp
  have h1 := h.2 j _ (List.getElem?_eq_getElem hj)
  have h2 := zero3_far j (by rw [← h.1]; exact hj)
  simp only [decide_eq_true_eq, Nat.not_lt]
  rcases Nat.eq_zero_or_pos ps[j] with h0 | h0
  · omega
  · have := h1.2.2 0 h0; omega
theorem meets1 : ∀ y, m3 0 y = true → y = 1 := by
  intro y h
  unfold m3 meet at h
  by_cases e : y = 1
  · exact e
  · simp [e] at h

set_option maxHeartbeats 1000000 in
theorem one_true (w : World) : Calls Try.prog 5 #[] w fun e w' => e = .returned (.bool true) ∧ Below w.heap.size w w' := by
  go_enter Try.func5, Try.ntmps5
  go_wp2_with fail
  refine (new_yes 3 w (by omega)).mono ?_
  rintro e w1 ⟨rfl, hsi, hsz, hG⟩
  have HB1 := Lib.hid (show Below w.heap.size w w1 from ⟨hsi.os, hsi.tape, hsi.output, hsi.size, hsi.block⟩)
  have HG := Lib.hid hG
  clear hsi hsz hG
  go_wp2_with fail
  refine (link_yes w1 _ _ _ 3 _ _ 0 1 HG.out (by omega) (by omega) (by omega)).mono ?_
  rintro e w2 ⟨rfl, hG2, hk2⟩
  have HG2 := Lib.hid hG2
  have HB2 := Lib.hid (show Below w.heap.size w w2 from HB1.out.trans ⟨hk2.os, hk2.tape, hk2.output, hk2.size, fun k hk => hk2.block k (Nat.lt_of_lt_of_le hk HB1.out.size) (fun ⟨i, _, e⟩ => by omega)⟩)
  clear hG2 hk2
  go_wp2_with fail
  refine (link_yes w2 _ _ _ 3 _ _ 2 1 HG2.out (by omega) (by omega) (by omega)).mono ?_
  rintro e w3 ⟨rfl, hG3, hk3⟩
  have HG3 : Hid (Graph w3 w.heap.size (w.heap.size + 1) w.heap.size (fun i => w.heap.size + 2 + i) 3 m3) := hG3
  have HB3 := Lib.hid (show Below w.heap.size w w3 from HB2.out.trans ⟨hk3.os, hk3.tape, hk3.output, hk3.size, fun k hk => hk3.block k (Nat.lt_of_lt_of_le hk HB2.out.size) (fun ⟨i, _, e⟩ => by omega)⟩)
  clear hG3 hk3
  go_wp2_with fail
  refine (way_in w3 _ _ _ 3 _ m3 0 2 HG3.out (by omega) (by omega) (by omega)).mono ?_
  rintro e w4 ⟨B, lev, hT, hb4, h⟩
  have HB4 := Lib.hid (HB3.out.trans (hb4.mono HB3.out.size))
  have HG4 := Lib.hid (HG3.out.below hb4)
  have hf := far_tree hT (by omega) (show 2 < 3 by omega)
  rw [far3] at hf
  rcases h with ⟨hn0, rfl⟩ | ⟨v, xs, hs, rfl, hl, hp, ho⟩
  · rw [hn0] at hf; simp at hf
  rw [if_pos hs] at hf
  have hl3 : xs.length = 3 := by omega
  have hx1 : xs[1]? = some 1 := by
    obtain ⟨y, hy⟩ : ∃ y, xs[1]? = some y := ⟨_, List.getElem?_eq_getElem (by omega)⟩
    have := hp.step 0 0 y hp.head hy
    rw [meets1 y this] at hy; exact hy
  rw [hl3] at ho
  obtain ⟨g, off, cap, rfl, _, _, _, hcells, _⟩ := ho.form (by omega)
  have hc1 : w4.cell? ⟨g, off + 1, none⟩ = some (.int .i64 1) := hcells 1 _ (ints_get hx1)
  have hgl := (ho.block (g := g) rfl).2.1
  have HC1 := Lib.hid hc1
  clear hT hb4 hf hs hl hp ho hl3 hx1 hcells hc1
  go_wp2_with fail
  refine (far_in w4 _ _ _ 3 _ m3 0 2 HG4.out (by omega) (by omega) (by omega)).mono ?_
  rw [far3]
  rintro e w5 ⟨rfl, hb5⟩
  have HB5 := Lib.hid (HB4.out.trans (hb5.mono HB4.out.size))
  have HG5 := Lib.hid (HG4.out.below hb5)
  have HC5 := Lib.hid ((hb5.cell (p := ⟨g, off + 1, none⟩) hgl).trans HC1.out)
  have hg5 : g < w5.heap.size := Nat.lt_of_lt_of_le hgl hb5.size
  clear hb5 hgl
  go_wp2_with fail
  refine (wide_graph w5 _ _ _ 3 _ m3 HG5.out (by omega)).mono ?_
  rw [wide3]
  rintro e w6 ⟨rfl, hb6⟩
  have HB6 := Lib.hid (HB5.out.trans (hb6.mono HB5.out.size))
  have HG6 := Lib.hid (HG5.out.below hb6)
  have hc6 : w6.cell? ⟨g, off + 1, none⟩ = some (.int .i64 1) := (hb6.cell (p := ⟨g, off + 1, none⟩) hg5).trans HC5.out
  clear hb6 hg5
  go_wp2_with fail
  refine (whole_graph w6 _ _ _ 3 _ m3 HG6.out (by omega)).mono ?_
  rintro e w7 ⟨ps, rfl, hal, hb7⟩
  rw [parts3 hal]
  have HB7 := Lib.hid (HB6.out.trans (hb7.mono HB6.out.size))
  have HG7 := Lib.hid (HG6.out.below hb7)
  clear hal hb7 hc6
  go_wp2_with fail
  refine (links_graph w7 _ _ _ 3 _ m3 HG7.out (by omega)).mono ?_
  rintro e w8 ⟨v, rfl, ho8, hb8⟩
  rw [links3] at ho8
  obtain ⟨A8, c8, rfl⟩ := ho8.len
  have HB8 := Lib.hid (HB7.out.trans (hb8.mono HB7.out.size))
  clear ho8 hb8
  go_wp2_with fail
  go_ret
  exact ⟨rfl, HB8.out⟩
end Go.Proofs.Ytlnjnpedcbljcaa
