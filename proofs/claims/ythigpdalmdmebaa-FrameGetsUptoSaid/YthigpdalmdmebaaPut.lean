/- frame.Put answers the bytes with the frame behind them, or that they are too many. -/
import Derived.Test.YthigpdalmdmebaaConc
namespace Go.Proofs.Ythigpdalmdmebaa
open Go Go.RowKit

def le4 (c : BitVec 32) : List UInt8 := [UInt8.ofNat (c.toNat % 256), UInt8.ofNat (c.toNat / 256 % 256), UInt8.ofNat (c.toNat / 65536 % 256), UInt8.ofNat (c.toNat / 16777216)]
def longF (n : Nat) : List UInt8 := vint 9 (2 * n)
def frameF (xs : List UInt8) : List UInt8 := longF xs.length ++ xs ++ le4 (moreF (moreF 0#32 (longF xs.length)) xs)
theorem byteV_ofNat (n : Nat) (h : n < 256) : byteV (UInt8.ofNat n) = .int .u8 (n : Int) := by
  unfold byteV; congr 1; simp; omega
theorem lowV_eq (c : BitVec 32) : ∃ x0 x1 x2 x3 : UInt8, le4 c = [x0, x1, x2, x3] ∧ lowV c = .agg #[.int .u8 (x0.toNat : Int), .int .u8 (x1.toNat : Int), .int .u8 (x2.toNat : Int), .int .u8 (x3.toNat : Int)] := by
  have := c.isLt
  refine ⟨_, _, _, _, rfl, ?_⟩
  simp only [lowV]
  simp
  omega
theorem own_base {w : World} {base base' : Nat} {e : TypeId} {size : Nat} {v : Value} {n : Nat} {xs : List Value} (h : w.ownsRow base' e size v n xs) (hb : base ≤ base') : w.ownsRow base e size v n xs := by
  refine ⟨h.1, ?_⟩
  rcases h.2 with h2 | ⟨g, cap, cur, hv, hg, r⟩
  · exact .inl h2
  · exact .inr ⟨g, cap, cur, hv, by omega, r⟩
theorem vint_pos (k f : Nat) : 0 < (vint k f).length := by
  cases k <;> simp only [vint] <;> (try split) <;> simp
theorem vint_le (k f : Nat) : (vint k f).length ≤ k + 1 := by
  induction k generalizing f with
  | zero => simp [vint]
  | succ k ih =>
    simp only [vint]
    split
    · simp
    · have := ih (f / 128); simp; omega

theorem put_big (A X : Option Addr) (ca cx n m : Nat) (w : World) (h : 1048576 < n) :
    Calls Try.prog 12 #[.slice A m ca, .slice X n cx] w fun e w' => e = .returned (.tuple #[.slice none 0 0, .int .i64 5]) ∧ w = w' := by
  go_enter Try.func12, Try.ntmps12
  go_wp2_with fail
  go_ret2
  exact ⟨rfl, rfl⟩

set_option maxRecDepth 100000 in
theorem put_any (A X : Option Addr) (ca cx : Nat) (bs xs : List UInt8) (w : World) (hx : xs.length ≤ 1048576) (hb : bs.length ≤ 70368744177664) (hA : RB w A bs) (hX : RB w X xs) (hca : A = none → ca = 0) (hcx : X = none → cx = 0) :
    Calls Try.prog 12 #[.slice A bs.length ca, .slice X xs.length cx] w fun e w' => ∃ v, e = .returned (.tuple #[v, .int .i64 0]) ∧
      w'.ownsRow w.heap.size 5 1 v (bs ++ frameF xs).length ((bs ++ frameF xs).map byteV) ∧ Below w.heap.size w w' := by
  have HA := Lib.hid hA
  have HX := Lib.hid hX
  have Hca := Lib.hid hca
  have Hcx := Lib.hid hcx
  clear hA hX hca hcx
  go_enter Try.func12, Try.ntmps12
  go_wp2_with fail
  refine (putInt_any xs.length w hx).mono ?_
  rintro e w1 ⟨v, rfl, hown, hb1⟩
  obtain ⟨g, c, rfl, hg, hglt⟩ := hown.form (vint_pos _ _)
  have Hown := Lib.hid hown
  have Hb1 := Lib.hid hb1
  have hl9 := vint_le 9 (2 * xs.length)
  have Hr := Lib.hid (RB.of_own hown)
  clear hown hb1
  have hfr : frameF xs = vint 9 (2 * xs.length) ++ xs ++ le4 (moreF (moreF 0#32 (vint 9 (2 * xs.length))) xs) := rfl
  have Hfr := Lib.hid hfr
  clear hfr
  generalize vint 9 (2 * xs.length) = long at *
  go_wp2_with fail
  refine (sum_any _ c long w1 (by omega) Hr.out).mono ?_
  rintro e w' ⟨rfl, rfl⟩
  go_wp2_with fail
  refine (more_any _ X cx xs w1 (by omega) (HX.out.below Hb1.out)).mono ?_
  rintro e w' ⟨rfl, rfl⟩
  go_wp2_with fail
  refine (low_any _ w1).mono ?_
  rintro e w2 ⟨rfl, hb2⟩
  have Hb2 := Lib.hid hb2
  clear hb2
  obtain ⟨x0, x1, x2, x3, hle, hlow⟩ := lowV_eq (moreF (moreF 0#32 long) xs)
  rw [hlow]
  have Hle := Lib.hid hle
  clear hle hlow
  go_wp2_with fail
  have hw2 : Below w.heap.size w w2 := Hb1.out.trans (Hb2.out.mono Hb1.out.size)
  have h4 : Below w2.heap.size w2 ((w2.alloc (.cells #[.int .u8 (x0.toNat : Int), .int .u8 (x1.toNat : Int), .int .u8 (x2.toNat : Int), .int .u8 (x3.toNat : Int)] 51)).alloc (.cells #[.slice A bs.length ca, .slice (some ⟨g, 0, none⟩) long.length c, .slice X xs.length cx, .slice (some ⟨w2.heap.size, 0, none⟩) 4 4] 22)) :=
    ((Below.refl _ _).alloc (Nat.le_refl _) _).alloc (by simp) _
  have hrs : RBs ((w2.alloc (.cells #[.int .u8 (x0.toNat : Int), .int .u8 (x1.toNat : Int), .int .u8 (x2.toNat : Int), .int .u8 (x3.toNat : Int)] 51)).alloc (.cells #[.slice A bs.length ca, .slice (some ⟨g, 0, none⟩) long.length c, .slice X xs.length cx, .slice (some ⟨w2.heap.size, 0, none⟩) 4 4] 22)) (w2.heap.size + 1) 0 [(A, ca, bs), (some ⟨g, 0, none⟩, c, long), (X, cx, xs), (some ⟨w2.heap.size, 0, none⟩, 4, [x0, x1, x2, x3])] := by
    refine ⟨by simp, ?_, ?_⟩
    · intro j hj
      rw [World.cell?_alloc_at _ _ _ _ (by simp)]
      have hj4 : j < 4 := hj
      rcases (show j = 0 ∨ j = 1 ∨ j = 2 ∨ j = 3 by omega) with rfl | rfl | rfl | rfl <;> rfl
    · intro j hj
      have hj4 : j < 4 := hj
      rcases (show j = 0 ∨ j = 1 ∨ j = 2 ∨ j = 3 by omega) with rfl | rfl | rfl | rfl
      · exact ⟨(HA.out.below hw2).below h4, Hca.out⟩
      · exact ⟨((Hr.out.below Hb2.out)).below h4, fun h => by cases h⟩
      · exact ⟨(HX.out.below hw2).below h4, Hcx.out⟩
      · refine ⟨fun _ => ⟨w2.heap.size, 0, rfl, by simp; omega, ?_⟩, fun h => by cases h⟩
        intro i hi
        have hi4 : i < 4 := hi
        rw [World.cell?_alloc_past _ _ _ (by simp), World.cell?_alloc_at _ _ _ _ rfl]
        rcases (show i = 0 ∨ i = 1 ∨ i = 2 ∨ i = 3 by omega) with rfl | rfl | rfl | rfl <;> rfl
  have hflat : flatS [(A, ca, bs), (some ⟨g, 0, none⟩, c, long), (X, cx, xs), (some ⟨w2.heap.size, 0, none⟩, 4, [x0, x1, x2, x3])] = bs ++ frameF xs := by
    rw [Hfr.out, Hle.out]
    simp [flatS]
  have hlen : (bs ++ frameF xs).length ≤ bs.length + 10 + xs.length + 4 ∧ 0 < (bs ++ frameF xs).length := by
    rw [Hfr.out, Hle.out]
    simp
    omega
  refine (concat_any (w2.heap.size + 1) 0 4 [(A, ca, bs), (some ⟨g, 0, none⟩, c, long), (X, cx, xs), (some ⟨w2.heap.size, 0, none⟩, 4, [x0, x1, x2, x3])] _ (by simp) (by rw [hflat]; exact hlen.2) (by rw [hflat]; omega) hrs).mono ?_
  rintro e w5 ⟨v, rfl, hown5, hb5⟩
  rw [hflat] at hown5
  have Hown5 := Lib.hid hown5
  have Hb5 := Lib.hid hb5
  have Hw2 := Lib.hid hw2
  have H4 := Lib.hid h4
  clear hown5 hb5 hrs hflat hlen hw2 h4
  go_wp2_with fail
  go_ret2
  have hs : w.heap.size ≤ w2.heap.size := Hw2.out.size
  refine ⟨v, rfl, own_base Hown5.out (by simp; omega), ?_⟩
  exact (Hw2.out.trans (H4.out.mono hs)).trans (Hb5.out.mono (by simp; omega))
end Go.Proofs.Ythigpdalmdmebaa
