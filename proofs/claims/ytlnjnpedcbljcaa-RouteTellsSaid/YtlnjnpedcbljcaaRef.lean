/- The reference's Far. -/
import Derived.Test.YtlnjnpedcbljcaaWhole
import Derived.Deep.MidRow
namespace Go.Proofs.Ytlnjnpedcbljcaa
open Go.RowKit RoutePlain

/-- 256 cells by two indices. -/
def sq (f : Nat → Nat → Value) : Array Value := ((List.range 256).map fun j => f (j / 16) (j % 16)).toArray
theorem zero33 (W : World) : (zeroValue 33).run Try.prog W = .ok (.agg (sq fun _ _ => .int .i64 0)) W := by kernel_rfl
theorem zero29 (W : World) : (zeroValue 29).run Try.prog W = .ok (.agg (sq fun _ _ => .bool false)) W := by kernel_rfl

theorem size33 : (Try.prog.info? 33).map (·.size) = some 256 := by kernel_rfl
theorem size29 : (Try.prog.info? 29).map (·.size) = some 256 := by kernel_rfl
theorem sq_get (f : Nat → Nat → Value) (j : Nat) (h : j < 256) : (sq f)[j]? = some (f (j / 16) (j % 16)) := by simp [sq, h]
theorem sq_size (f : Nat → Nat → Value) : (sq f).size = 256 := by simp [sq]
theorem ix_div {i k : Nat} (hk : k < 16) : (i * 16 + k) / 16 = i := by omega
theorem ix_mod {i k : Nat} (hk : k < 16) : (i * 16 + k) % 16 = k := by omega
def upd2 (f : Nat → Nat → Int) (i k : Nat) (v : Int) : Nat → Nat → Int := fun a b => if a = i ∧ b = k then v else f a b
theorem upd2_same (f : Nat → Nat → Int) (i k : Nat) (v : Int) : upd2 f i k v i k = v := if_pos ⟨rfl, rfl⟩
theorem upd2_other (f : Nat → Nat → Int) {i k a b : Nat} (v : Int) (h : ¬ (a = i ∧ b = k)) : upd2 f i k v a b = f a b := if_neg h

/-- The three blocks: who meets whom, the result, and the sums. -/
structure Sq (w wr : World) (m : Nat → Nat → Bool) (f : Nat → Nat → Int) : Prop where
  below : Below w.heap.size w wr
  size : wr.heap.size = w.heap.size + 1 + 1 + 1
  who : wr.rowIs w.heap.size 29 256 (fun j => .bool (m (j / 16) (j % 16)))
  res : wr.rowIs (w.heap.size + 1) 33 256 (fun _ => .int .i64 0)
  sums : wr.rowIs (w.heap.size + 1 + 1) 33 256 (fun j => .int .i64 (f (j / 16) (j % 16)))
theorem Sq.start (w : World) (m : Nat → Nat → Bool) :
    Sq w (((w.alloc (.cells (sq fun i k => .bool (m i k)) 29)).alloc (.cells (sq fun _ _ => .int .i64 0) 33)).alloc (.cells (sq fun _ _ => .int .i64 0) 33)) m (fun _ _ => 0) := by
  have h1 := World.rowIs_alloc w (sq fun i k => Value.bool (m i k)) 29 (fun j => .bool (m (j / 16) (j % 16))) (fun j hj => sq_get _ j (by rwa [sq_size] at hj))
  have h2 := World.rowIs_alloc (w.alloc (.cells (sq fun i k => .bool (m i k)) 29)) (sq fun _ _ => Value.int .i64 0) 33 (fun _ => .int .i64 0) (fun j hj => sq_get _ j (by rwa [sq_size] at hj))
  have h3 := World.rowIs_alloc ((w.alloc (.cells (sq fun i k => .bool (m i k)) 29)).alloc (.cells (sq fun _ _ => .int .i64 0) 33)) (sq fun _ _ => Value.int .i64 0) 33 (fun _ => .int .i64 0) (fun j hj => sq_get _ j (by rwa [sq_size] at hj))
  rw [sq_size] at h1 h2 h3
  refine ⟨(((Below.refl _ w).alloc (Nat.le_refl _) _).alloc (by simp) _).alloc (by simp; omega) _, by simp, (h1.alloc _).alloc _, ?_, ?_⟩
  · have := h2.alloc (.cells (sq fun _ _ => .int .i64 0) 33); simpa using this
  · simpa using h3
theorem Sq.cell {w wr : World} {m : Nat → Nat → Bool} {f : Nat → Nat → Int} (h : Sq w wr m f) {i k : Nat} (hi : i < 16) (hk : k < 16) :
    wr.cell? ⟨w.heap.size + 1 + 1, i * 16 + k, none⟩ = some (.int .i64 (f i k)) := by
  have := h.sums.cell (i := i * 16 + k) (by omega)
  rw [ix_div hk, ix_mod hk] at this; exact this
theorem Sq.frozen {w wr : World} {m : Nat → Nat → Bool} {f : Nat → Nat → Int} (h : Sq w wr m f) (j : Nat) : wr.frozen? ⟨w.heap.size + 1 + 1, j, none⟩ = false := h.sums.frozen j
theorem Sq.meets {w wr : World} {m : Nat → Nat → Bool} {f : Nat → Nat → Int} (h : Sq w wr m f) {i k : Nat} (hi : i < 16) (hk : k < 16) :
    wr.cell? ⟨w.heap.size, i * 16 + k, none⟩ = some (.bool (m i k)) := by
  have := h.who.cell (i := i * 16 + k) (by omega)
  rw [ix_div hk, ix_mod hk] at this; exact this
theorem Sq.set {w wr : World} {m : Nat → Nat → Bool} {f : Nat → Nat → Int} (h : Sq w wr m f) {i k : Nat} (hk : k < 16) (v : Int) :
    Sq w (wr.setCell ⟨w.heap.size + 1 + 1, i * 16 + k, none⟩ (.int .i64 v)) m (upd2 f i k v) := by
  refine ⟨h.below.setCell (by show w.heap.size ≤ w.heap.size + 1 + 1; omega) _, by simp [World.setCell, h.size], h.who.setOther (by show w.heap.size ≠ w.heap.size + 1 + 1; omega) _, h.res.setOther (by show w.heap.size + 1 ≠ w.heap.size + 1 + 1; omega) _, (h.sums.set (i * 16 + k) _).congr fun j hj => ?_⟩
  by_cases e : j = i * 16 + k
  · subst e
    rw [if_pos rfl, ix_div hk, ix_mod hk, upd2_same]
  · rw [if_neg e, upd2_other]
    intro hh
    obtain ⟨h1, h2⟩ := hh
    omega
theorem Sq.drew {w wr : World} {m : Nat → Nat → Bool} {f : Nat → Nat → Int} (h : Sq w wr m f) : Sq w wr.drew m f := ⟨h.below.drew, h.size, h.who, h.res, h.sums⟩

/-- Up to (a, b) it is g, from there on h. -/
def Upto (n a b : Nat) (f g : Nat → Nat → Int) (h : Nat → Nat → Int) : Prop := ∀ x y, x < n → y < n → f x y = if x < a ∨ x = a ∧ y < b then g x y else h x y
theorem Upto.step {n a b : Nat} {f f' g h : Nat → Nat → Int} (hf : Upto n a b f g h) (h1 : ∀ x y, ¬ (x = a ∧ y = b) → f' x y = f x y) (h2 : f' a b = g a b) : Upto n a (b + 1) f' g h := by
  intro x y hx hy
  by_cases e : x = a ∧ y = b
  · obtain ⟨rfl, rfl⟩ := e
    rw [if_pos (by omega), h2]
  · rw [h1 x y e, hf x y hx hy]
    by_cases c : x < a ∨ x = a ∧ y < b
    · rw [if_pos c, if_pos (by omega)]
    · rw [if_neg c, if_neg (by omega)]
theorem Upto.next {n a : Nat} {f g h : Nat → Nat → Int} (hf : Upto n a n f g h) : Upto n (a + 1) 0 f g h := by
  intro x y hx hy
  rw [hf x y hx hy]
  by_cases c : x < a ∨ x = a ∧ y < n
  · rw [if_pos c, if_pos (by omega)]
  · rw [if_neg c, if_neg (by omega)]
theorem Upto.start {n : Nat} (f g : Nat → Nat → Int) : Upto n 0 0 f g f := fun x y _ _ => by rw [if_neg (by omega)]
theorem Upto.all {n b : Nat} {f g h : Nat → Nat → Int} (hf : Upto n n b f g h) : ∀ x y, x < n → y < n → f x y = g x y := fun x y hx hy => by rw [hf x y hx hy, if_pos (by omega)]

set_option maxHeartbeats 1000000 in
theorem ref_far (w : World) (m : Nat → Nat → Bool) (n : Nat) (hn : n ≤ 16) :
    Calls Try.prog 7 #[.agg (sq fun i k => .bool (m i k)), .int .i64 n] w fun e w' => e = .returned (.agg (sq fun i k => .int .i64 (if i < n ∧ k < n then far m n i k else -1))) ∧ Below w.heap.size w w' := by
  have h1 := zero33
  have hs := Sq.start w m
  generalize hA : (sq fun _ _ => Value.int .i64 0) = Z at h1 hs
  generalize hM : (sq fun i k => Value.bool (m i k)) = M at hs ⊢
  have HA := Lib.hid hA
  have HM := Lib.hid hM
  have HS := Lib.hid hs
  clear hA hM hs
  go_enter Try.func7, Try.ntmps7
  go_wp2_with fail
  go_loopg [6] n (fun gk i wr => ∃ a f, a ≤ n ∧ gk = n - a ∧ i = .int .i64 (a : Int) ∧ Sq w wr m f ∧ Upto n a 0 f (fun x y => (fw m 0 x y : Int)) (fun _ _ => 0))
  case atStart => exact ⟨0, _, Nat.zero_le _, rfl, rfl, HS.out, Upto.start _ _⟩
  case round =>
    obtain ⟨a, f, han, rfl, rfl, hS, hf⟩ := hrel
    have HS1 := Lib.hid hS
    have HF := Lib.hid hf
    clear hS hf
    by_cases hlt : a < n
    · have hlt' : (a : Int) < (n : Int) := by omega
      go_wp2_with fail
      obtain ⟨wo, rfl⟩ : ∃ wo : World, wo = wr := ⟨_, rfl⟩
      go_loopg [7] n (fun gk i wr => ∃ b f, b ≤ n ∧ gk = n - b ∧ i = .int .i64 (b : Int) ∧ Sq w wr m f ∧ Upto n a b f (fun x y => (fw m 0 x y : Int)) (fun _ _ => 0))
      case atStart => exact ⟨0, f, Nat.zero_le _, rfl, rfl, HS1.out, HF.out⟩
      case round =>
        obtain ⟨b, f2, hbn, rfl, rfl, hS, hf⟩ := hrel
        by_cases hlb : b < n
        · have hlb' : (b : Int) < (n : Int) := by omega
          have hb16 : b < 16 := by omega
          have c1 := hS.cell (i := a) (k := b) (by omega) (by omega)
          have c2 := hS.meets (i := a) (k := b) (by omega) (by omega)
          have f1 := hS.frozen (a * 16 + b)
          have HS2 := Lib.hid hS
          have HF2 := Lib.hid hf
          clear hS hf
          cases hm : m a b
          · have HM2 := Lib.hid hm
            rw [hm] at c2
            clear hm
            by_cases e : a = b
            · have e' : ((a : Int) == (b : Int)) = true := by simp; omega
              have E := Lib.hid e
              clear e
              go_wp2_with fail
              go_roundg (n - (b + 1))
              case measure => omega
              case rel => exact ⟨b + 1, _, by omega, rfl, by go_num, (HS2.out.set hb16 99).set hb16 0, HF2.out.step (fun x y h => by rw [upd2_other _ _ h, upd2_other _ _ h]) (by rw [upd2_same]; simp [fw, fw0, E.out])⟩
            · have e' : ((a : Int) == (b : Int)) = false := by simp; omega
              have E := Lib.hid e
              clear e
              go_wp2_with fail
              go_roundg (n - (b + 1))
              case measure => omega
              case rel => exact ⟨b + 1, _, by omega, rfl, by go_num, HS2.out.set hb16 99, HF2.out.step (fun x y h => by rw [upd2_other _ _ h]) (by rw [upd2_same]; simp [fw, fw0, E.out, HM2.out])⟩
          · have HM2 := Lib.hid hm
            rw [hm] at c2
            clear hm
            by_cases e : a = b
            · have e' : ((a : Int) == (b : Int)) = true := by simp; omega
              have E := Lib.hid e
              clear e
              go_wp2_with fail
              go_roundg (n - (b + 1))
              case measure => omega
              case rel => exact ⟨b + 1, _, by omega, rfl, by go_num, ((HS2.out.set hb16 99).set hb16 1).set hb16 0, HF2.out.step (fun x y h => by rw [upd2_other _ _ h, upd2_other _ _ h, upd2_other _ _ h]) (by rw [upd2_same]; simp [fw, fw0, E.out])⟩
            · have e' : ((a : Int) == (b : Int)) = false := by simp; omega
              have E := Lib.hid e
              clear e
              go_wp2_with fail
              go_roundg (n - (b + 1))
              case measure => omega
              case rel => exact ⟨b + 1, _, by omega, rfl, by go_num, (HS2.out.set hb16 99).set hb16 1, HF2.out.step (fun x y h => by rw [upd2_other _ _ h, upd2_other _ _ h]) (by rw [upd2_same]; simp [fw, fw0, E.out, HM2.out])⟩
        · obtain rfl : b = n := by omega
          have HS2 := Lib.hid hS
          have HF2 := Lib.hid hf
          clear hS hf
          go_wp2_with fail
          go_roundg (b - (a + 1))
          case measure => omega
          case rel => exact ⟨a + 1, f2, by omega, rfl, by go_num, HS2.out, HF2.out.next⟩
    · obtain rfl : n = a := by omega
      have HF0 := Lib.hid HF.out.all
      go_wp2_with fail
      go_loopg [8] n (fun gk i wr => ∃ t f, t ≤ n ∧ gk = n - t ∧ i = .int .i64 (t : Int) ∧ Sq w wr m f ∧ ∀ x y, x < n → y < n → f x y = (fw m t x y : Int))
      case atStart => exact ⟨0, _, Nat.zero_le _, rfl, rfl, HS1.out, HF0.out⟩
      case round =>
        obtain ⟨t, f3, htn, rfl, rfl, hS, hf⟩ := hrel
        have HS3 := Lib.hid hS
        have HF3 := Lib.hid hf
        clear hS hf
        by_cases htl : t < n
        · have htl' : (t : Int) < (n : Int) := by omega
          go_wp2_with fail
          obtain ⟨wo3, rfl⟩ : ∃ wo : World, wo = wr := ⟨_, rfl⟩
          go_loopg [9] n (fun gk i wr => ∃ a f, a ≤ n ∧ gk = n - a ∧ i = .int .i64 (a : Int) ∧ Sq w wr m f ∧ Upto n a 0 f (fun x y => (fw m (t + 1) x y : Int)) (fun x y => (fw m t x y : Int)))
          case atStart => exact ⟨0, _, Nat.zero_le _, rfl, rfl, HS3.out, fun x y hx hy => by rw [if_neg (by omega)]; exact HF3.out x y hx hy⟩
          case round =>
            obtain ⟨a, f4, han, rfl, rfl, hS, hf⟩ := hrel
            have HS4 := Lib.hid hS
            have HF4 := Lib.hid hf
            clear hS hf
            by_cases hla : a < n
            · have hla' : (a : Int) < (n : Int) := by omega
              go_wp2_with fail
              obtain ⟨wo4, rfl⟩ : ∃ wo : World, wo = wr := ⟨_, rfl⟩
              go_loopg [10] n (fun gk i wr => ∃ b f, b ≤ n ∧ gk = n - b ∧ i = .int .i64 (b : Int) ∧ Sq w wr m f ∧ Upto n a b f (fun x y => (fw m (t + 1) x y : Int)) (fun x y => (fw m t x y : Int)))
              case atStart => exact ⟨0, _, Nat.zero_le _, rfl, rfl, HS4.out, HF4.out⟩
              case round =>
                obtain ⟨b, f5, hbn, rfl, rfl, hS, hf⟩ := hrel
                have HS5 := Lib.hid hS
                have HF5 := Lib.hid hf
                by_cases hlb : b < n
                · have hlb' : (b : Int) < (n : Int) := by omega
                  have hb16 : b < 16 := by omega
                  have c1 := hS.cell (i := a) (k := b) (by omega) (by omega)
                  have c2 := hS.cell (i := a) (k := t) (by omega) (by omega)
                  have c3 := hS.cell (i := t) (k := b) (by omega) (by omega)
                  have f1 := hS.frozen (a * 16 + b)
                  have e1 : f5 a b = (fw m t a b : Int) := by rw [hf a b hla hlb, if_neg (by omega)]
                  have e2 : f5 a t = (fw m t a t : Int) := by
                    rw [hf a t hla htl]
                    by_cases c : a < a ∨ a = a ∧ t < b
                    · rw [if_pos c]; show ((fw m (t + 1) a t : Nat) : Int) = _; rw [fw_col]
                    · rw [if_neg c]
                  have e3 : f5 t b = (fw m t t b : Int) := by
                    rw [hf t b htl hlb]
                    by_cases c : t < a ∨ t = a ∧ b < b
                    · rw [if_pos c]; show ((fw m (t + 1) t b : Nat) : Int) = _; rw [fw_row]
                    · rw [if_neg c]
                  rw [e1] at c1
                  rw [e2] at c2
                  rw [e3] at c3
                  have hv : fw m (t + 1) a b = min (fw m t a b) (fw m t a t + fw m t t b) := rfl
                  have b1 := fw_top (m := m) t a b
                  have b2 := fw_top (m := m) t a t
                  have b3 := fw_top (m := m) t t b
                  clear e1 e2 e3
                  generalize fw m t a b = x1 at *
                  generalize fw m t a t = x2 at *
                  generalize fw m t t b = x3 at *
                  have HV := Lib.hid hv
                  clear hS hf hv
                  go_wp2_with fail
                  by_cases hcmp : (x1 : Int) ≤ (x2 : Int) + (x3 : Int)
                  · go_region
                    go_wp2_with fail
                    go_roundg (n - (b + 1))
                    case measure => omega
                    case rel => exact ⟨b + 1, _, by omega, rfl, by go_num, (HS5.out.set hb16 (x1 : Int)).drew, HF5.out.step (fun x y h => by rw [upd2_other _ _ h]) (by rw [upd2_same, HV.out]; omega)⟩
                  · go_region
                    go_wp2_with fail
                    go_roundg (n - (b + 1))
                    case measure => omega
                    case rel => exact ⟨b + 1, _, by omega, rfl, by go_num, (HS5.out.set hb16 ((x2 : Int) + (x3 : Int))).drew, HF5.out.step (fun x y h => by rw [upd2_other _ _ h]) (by rw [upd2_same, HV.out]; omega)⟩
                · obtain rfl : n = b := by omega
                  clear hS hf
                  go_wp2_with fail
                  go_roundg (n - (a + 1))
                  case measure => omega
                  case rel => exact ⟨a + 1, f5, by omega, rfl, by go_num, HS5.out, HF5.out.next⟩
            · obtain rfl : n = a := by omega
              go_wp2_with fail
              go_roundg (n - (t + 1))
              case measure => omega
              case rel => exact ⟨t + 1, f4, by omega, rfl, by go_num, HS4.out, HF4.out.all⟩
        · obtain rfl : n = t := by omega
          go_wp2_with fail
          go_loopg [11] 16 (fun gk i wr => ∃ a f, a ≤ 16 ∧ gk = 16 - a ∧ i = .int .i64 (a : Int) ∧ Sq w wr m f ∧ Upto 16 a 0 f (fun x y => if x < n ∧ y < n then far m n x y else -1) (fun x y => f3 x y))
          case atStart => exact ⟨0, f3, Nat.zero_le _, rfl, rfl, HS3.out, Upto.start _ _⟩
          case round =>
            obtain ⟨a, f4, han, rfl, rfl, hS, hf⟩ := hrel
            have HS4 := Lib.hid hS
            have HF4 := Lib.hid hf
            clear hS hf
            by_cases hla : a < 16
            · have hla' : (a : Int) < 16 := by omega
              go_wp2_with fail
              obtain ⟨wo4, rfl⟩ : ∃ wo : World, wo = wr := ⟨_, rfl⟩
              go_loopg [12] 16 (fun gk i wr => ∃ b f, b ≤ 16 ∧ gk = 16 - b ∧ i = .int .i64 (b : Int) ∧ Sq w wr m f ∧ Upto 16 a b f (fun x y => if x < n ∧ y < n then far m n x y else -1) (fun x y => f3 x y))
              case atStart => exact ⟨0, _, Nat.zero_le _, rfl, rfl, HS4.out, HF4.out⟩
              case round =>
                obtain ⟨b, f5, hbn, rfl, rfl, hS, hf⟩ := hrel
                have HS5 := Lib.hid hS
                have HF5 := Lib.hid hf
                by_cases hlb : b < 16
                · have hlb' : (b : Int) < 16 := by omega
                  have c1 := hS.cell (i := a) (k := b) (by omega) (by omega)
                  have f1 := hS.frozen (a * 16 + b)
                  have e1 : f5 a b = f3 a b := by rw [hf a b hla hlb, if_neg (by omega)]
                  rw [e1] at c1
                  clear hS hf
                  by_cases hin : a < n ∧ b < n
                  · have e2 := HF3.out a b hin.1 hin.2
                    have hfar : far m n a b = if fw m n a b < 99 then (fw m n a b : Int) else -1 := rfl
                    rw [e2] at c1
                    have b1 := fw_top (m := m) n a b
                    have HE := Lib.hid (And.intro e1 (And.intro e2 hfar))
                    clear e1 e2 hfar
                    have g1 : ¬ (n : Int) ≤ (a : Int) := by omega
                    have g2 : ¬ (n : Int) ≤ (b : Int) := by omega
                    by_cases h99 : fw m n a b < 99
                    · generalize hx : fw m n a b = x1 at *
                      have HX := Lib.hid hx
                      clear hx
                      have g3 : ¬ (99 : Int) ≤ (x1 : Int) := by omega
                      go_wp2_with fail
                      go_roundg (16 - (b + 1))
                      case measure => omega
                      case rel => exact ⟨b + 1, f5, by omega, rfl, by go_num, HS5.out, HF5.out.step (fun _ _ _ => rfl) (by
                        obtain ⟨k1, k2, k3⟩ := HE.out
                        show f5 a b = if a < n ∧ b < n then far m n a b else -1
                        rw [if_pos hin, k1, k2, k3, if_pos h99])⟩
                    · generalize hx : fw m n a b = x1 at *
                      have HX := Lib.hid hx
                      clear hx
                      have g3 : (99 : Int) ≤ (x1 : Int) := by omega
                      go_wp2_with fail
                      go_roundg (16 - (b + 1))
                      case measure => omega
                      case rel => exact ⟨b + 1, _, by omega, rfl, by go_num, HS5.out.set hlb (-1), HF5.out.step (fun x y h => by rw [upd2_other _ _ h]) (by
                        obtain ⟨k1, k2, k3⟩ := HE.out
                        rw [upd2_same]
                        show (-1 : Int) = if a < n ∧ b < n then far m n a b else -1
                        rw [if_pos hin, k3, if_neg h99])⟩
                  · by_cases g1 : (n : Int) ≤ (a : Int)
                    · go_wp2_with fail
                      go_roundg (16 - (b + 1))
                      case measure => omega
                      case rel => exact ⟨b + 1, _, by omega, rfl, by go_num, HS5.out.set hlb (-1), HF5.out.step (fun x y h => by rw [upd2_other _ _ h]) (by
                        rw [upd2_same]
                        show (-1 : Int) = if a < n ∧ b < n then far m n a b else -1
                        rw [if_neg hin])⟩
                    · have g2 : (n : Int) ≤ (b : Int) := by omega
                      go_wp2_with fail
                      go_roundg (16 - (b + 1))
                      case measure => omega
                      case rel => exact ⟨b + 1, _, by omega, rfl, by go_num, HS5.out.set hlb (-1), HF5.out.step (fun x y h => by rw [upd2_other _ _ h]) (by
                        rw [upd2_same]
                        show (-1 : Int) = if a < n ∧ b < n then far m n a b else -1
                        rw [if_neg hin])⟩
                · obtain rfl : 16 = b := by omega
                  clear hS hf
                  go_wp2_with fail
                  go_roundg (16 - (a + 1))
                  case measure => omega
                  case rel => exact ⟨a + 1, f5, by omega, rfl, by go_num, HS5.out, HF5.out.next⟩
            · obtain rfl : 16 = a := by omega
              have HALL := Lib.hid HF4.out.all
              obtain ⟨R, hR⟩ : ∃ R, (sq fun i k => Value.int .i64 (if i < n ∧ k < n then far m n i k else -1)) = R := ⟨_, rfl⟩
              have hd : wr.heap[w.heap.size + 1 + 1]? = some (.cells R 33 (0, 0)) := by
                obtain ⟨cs, hcs, hsz, hget⟩ := HS4.out.sums
                rw [hcs]
                have : cs = R := by
                  rw [← hR]
                  apply Array.ext (by rw [hsz, sq_size])
                  intro j h1 h2
                  have g1 : cs[j]? = some (Value.int .i64 (f4 (j / 16) (j % 16))) := hget j (by omega)
                  have g2 : (sq fun i k => Value.int .i64 (if i < n ∧ k < n then far m n i k else -1))[j]? = some (Value.int .i64 (if j / 16 < n ∧ j % 16 < n then far m n (j / 16) (j % 16) else -1)) := sq_get _ j (by omega)
                  rw [HALL.out (j / 16) (j % 16) (by omega) (by omega)] at g1
                  rw [← g2, Array.getElem?_eq_getElem h1, Array.getElem?_eq_getElem h2] at g1
                  exact Option.some.inj g1
                rw [this]
              have hsz : R.size = 256 := by rw [← hR, sq_size]
              have hi33 : (Try.prog.info? 33).map (·.size) = some R.size := by rw [hsz]; exact size33
              have hone : R.all (·.oneCell') = true := by
                rw [← hR]
                refine Array.all_eq_true_iff_forall_mem.2 (fun v hv => ?_)
                simp only [sq, List.mem_toArray, List.mem_map] at hv
                obtain ⟨j, _, rfl⟩ := hv
                rfl
              obtain ⟨rs, hrs, hrz, _⟩ := HS4.out.res
              have hold : rs.size = R.size := by rw [hrz, hsz]
              have HR := Lib.hid hR
              have HRS := Lib.hid (And.intro hrs (And.intro hold (And.intro hi33 hone)))
              have HD := Lib.hid hd
              clear hR hrs hold hi33 hone hd hsz hrz h1
              go_wp2_with (first | (refine wpList_load_row rfl 33 _ rfl (w.heap.size + 1 + 1) rfl 33 R (0, 0) _ HD.out Try.underlying33 rfl HRS.out.2.2.1 ?_) | (refine wpList_store_row rfl 33 _ _ rfl (w.heap.size + 1) R rfl rfl 33 rs HRS.out.1 HRS.out.2.2.1 HRS.out.2.1 HRS.out.2.2.2 ?_))
              refine bodyPost_ret (results_cell_row rfl _ _ (w.heap.size + 1) 33 R (0, 0) _ rfl (setRow_heap wr _ rs R 33 (0, 0) HRS.out.1) Try.underlying33 rfl HRS.out.2.2.1) rfl ⟨by rw [HR.out], ?_⟩
              have hb := HS4.out.below
              exact ⟨hb.os, hb.tape, hb.output, by rw [setRow_size]; exact hb.size, fun k hk => by rw [setRow_other _ _ _ _ (by omega)]; exact hb.block k hk⟩
end Go.Proofs.Ytlnjnpedcbljcaa
