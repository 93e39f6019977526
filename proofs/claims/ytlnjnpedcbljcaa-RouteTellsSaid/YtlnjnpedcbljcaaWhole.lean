/- Whole. -/
import Derived.Test.YtlnjnpedcbljcaaLinks
namespace Go.Proofs.Ytlnjnpedcbljcaa
open Go.RowKit RoutePlain

theorem over_zero (p : Int) (w : World) : Calls Try.prog 22 #[.int .i64 p] w fun e w' => e = .returned (.bool (decide (0 < p))) ∧ w' = w := by
  go_enter Try.func22, Try.ntmps22
  go_wp2
  go_ret
  exact ⟨rfl, rfl⟩

def Found (ps : List Nat) (r : Int) : Prop := (r = -1 ∧ ∀ p, p ∈ ps → p = 0) ∨ (0 ≤ r ∧ r ≤ 100 ∧ ∃ p, p ∈ ps ∧ 0 < p)
def Index (w : World) (ps : List Nat) (e : Ending) (w' : World) : Prop := ∃ r, e = .returned (.int .i64 r) ∧ Found ps r ∧ w' = w

set_option maxHeartbeats 1000000 in
theorem index_ps (w : World) (base g n : Nat) (ps : List Nat) (ho : Owns w base 3 1 (.slice (some ⟨g, 0, none⟩) n n) n (ints ps)) (hl : ps.length = n) (hn : n ≤ 16) :
    Calls Try.prog 23 #[.slice (some ⟨g, 0, none⟩) n n, .func (.func 22) #[] #[]] w (Index w ps) := by
  have HO := Lib.hid ho
  have HL := Lib.hid hl
  clear ho hl
  go_enter Try.func23, Try.ntmps23
  go_wp2_with fail
  go_loopg [8] n (fun gk i wr => wr = w ∧ ∃ k : Nat, k ≤ n ∧ gk = n - k ∧ i = .int .i64 (k : Int) ∧ ∀ j p, j < k → ps[j]? = some p → p = 0)
  case atStart => exact ⟨rfl, 0, Nat.zero_le _, rfl, rfl, fun j p h => by omega⟩
  case round =>
    obtain ⟨rfl, k, hkn, rfl, rfl, hz⟩ := hrel
    have HZ := Lib.hid hz
    clear hz
    by_cases hlt : k < n
    · have hlt' : (k : Int) < (n : Int) := by omega
      obtain ⟨q, hq⟩ : ∃ q, ps[k]? = some q := ⟨_, List.getElem?_eq_getElem (by rw [HL.out]; exact hlt)⟩
      have hc : wr.cell? ⟨g, k, none⟩ = some (.int .i64 (q : Int)) := by
        obtain ⟨g', off', cap', hv', _, _, _, hcells, _⟩ := HO.out.form (by omega)
        injection hv' with e1 e2 e3
        injection e1 with e1
        injection e1 with e1 e4 _
        subst e1; subst e4
        have := hcells k _ (ints_get hq); simpa using this
      have HQ := Lib.hid hq
      clear hq
      go_wp2_with fail
      refine (over_zero (q : Int) wr).mono ?_
      rintro e w' ⟨rfl, hw⟩
      obtain rfl := hw.symm
      by_cases hq0 : 0 < q
      · have hq1 : (0 : Int) < (q : Int) := by omega
        go_wp2_with fail
        go_ret
        exact ⟨k, rfl, .inr ⟨by omega, by omega, q, List.mem_of_getElem? HQ.out, hq0⟩, rfl⟩
      · have hq1 : ¬ (0 : Int) < (q : Int) := by omega
        have hqz : Hid (q = 0) := by show q = 0; omega
        go_wp2_with fail
        go_roundg (n - (k + 1))
        case measure => omega
        case rel => exact ⟨rfl, k + 1, by omega, rfl, by go_num, fun j p hj hp => by
          by_cases e : j = k
          · subst e; have := HQ.out; rw [hp] at this; injection this with this; rw [this]; exact hqz.out
          · exact HZ.out j p (by omega) hp⟩
    · obtain rfl : k = n := by omega
      go_wp2_with fail
      go_ret
      refine ⟨-1, rfl, .inl ⟨rfl, fun p hp => ?_⟩, rfl⟩
      obtain ⟨j, hj, rfl⟩ := List.mem_iff_getElem.1 hp
      exact HZ.out j _ (by rw [← HL.out]; exact hj) (List.getElem?_eq_getElem hj)

theorem contains_ps (w : World) (base g n : Nat) (ps : List Nat) (ho : Owns w base 3 1 (.slice (some ⟨g, 0, none⟩) n n) n (ints ps)) (hl : ps.length = n) (hn : n ≤ 16) :
    Calls Try.prog 21 #[.slice (some ⟨g, 0, none⟩) n n, .func (.func 22) #[] #[]] w fun e w' => e = .returned (.bool (ps.any fun p => decide (0 < p))) ∧ w' = w := by
  have HO := Lib.hid ho
  have HL := Lib.hid hl
  clear ho hl
  go_enter Try.func21, Try.ntmps21
  go_wp2_with fail
  refine (index_ps w base g n ps HO.out HL.out hn).mono ?_
  rintro e w' ⟨r, rfl, hf, hw⟩
  obtain rfl := hw.symm
  rcases hf with ⟨rfl, hz⟩ | ⟨h0, h1, hp⟩
  · have HZ := Lib.hid (show (ps.any fun p => decide (0 < p)) = false by
      rw [List.any_eq_false]; intro p hp; simp [hz p hp])
    clear hz
    go_wp2_with fail
    go_ret
    exact ⟨by rw [HZ.out]; rfl, rfl⟩
  · have HZ := Lib.hid (show (ps.any fun p => decide (0 < p)) = true by
      rw [List.any_eq_true]
      obtain ⟨p, hp1, hp2⟩ := hp
      exact ⟨p, hp1, by simpa using hp2⟩)
    clear hp
    go_wp2_with fail
    go_ret
    exact ⟨by rw [HZ.out]; simp [h0], rfl⟩

theorem whole_graph (w : World) (B0 p mb n : Nat) (rb : Nat → Nat) (m : Nat → Nat → Bool) (hG : Graph w B0 p mb rb n m) (hn : n ≤ 16) :
    Calls Try.prog 16 #[.pointer (some ⟨p, 0, none⟩)] w fun e w' => ∃ ps, e = .returned (.bool (!(ps.any fun p => decide (0 < p)))) ∧ AllLeast m n ps ∧ Below w.heap.size w w' := by
  have H := Lib.hid hG
  clear hG
  go_enter Try.func16, Try.ntmps16
  go_wp2_with fail
  refine (parts_graph w B0 p mb n rb m H.out hn).mono ?_
  rintro e w1 ⟨g, ps, rfl, hal, ho, hb⟩
  have HA := Lib.hid hal
  have HO := Lib.hid ho
  have HB := Lib.hid hb
  clear hal ho hb
  go_wp2_with fail
  refine (contains_ps w1 w.heap.size g n ps HO.out HA.out.1 hn).mono ?_
  rintro e w2 ⟨rfl, hw⟩
  obtain rfl := hw.symm
  generalize hb : (ps.any fun p => decide (0 < p)) = b
  have HBB := Lib.hid hb
  clear hb
  go_wp2_with fail
  go_ret
  exact ⟨ps, by rw [HBB.out]; rfl, HA.out, HB.out⟩
end Go.Proofs.Ytlnjnpedcbljcaa
