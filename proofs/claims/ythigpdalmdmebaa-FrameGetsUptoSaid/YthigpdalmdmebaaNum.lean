/- wire.unfold, wire.number, wire.count answer what stands at the front of a text. -/
import Derived.Test.YthigpdalmdmebaaPut
namespace Go.Proofs.Ythigpdalmdmebaa
open Go Go.RowKit

def unfI (f : Nat) : Int := if f % 2 = 1 then -((f / 2 : Nat) : Int) - 1 else ((f / 2 : Nat) : Int)
def numR (l : List UInt8) : Nat → Nat → Nat → Int × Nat × Nat
  | 0, _, _ => (0, 0, 4)
  | r + 1, i, f =>
    match l[i]? with
    | none => (0, 0, 3)
    | some c =>
      if i = 9 ∧ c.toNat ≠ 1 then (0, 0, 4)
      else if 128 ≤ c.toNat then numR l r (i + 1) (f + c.toNat % 128 * 128 ^ i)
      else if c.toNat = 0 ∧ 0 < i then (0, 0, 4)
      else (unfI (f + c.toNat % 128 * 128 ^ i), i + 1, 0)
def numF (l : List UInt8) : Int × Nat × Nat := numR l 10 0 0

theorem u8_and127 (c : UInt8) : bits .and .u8 (c.toNat : Int) 127 = ((c.toNat % 128 : Nat) : Int) := by
  have h : ∀ a : Fin 256, bits .and .u8 ((a.val : Nat) : Int) 127 = ((a.val % 128 : Nat) : Int) := by decide +kernel
  exact h ⟨c.toNat, c.toNat_lt⟩
theorem u8_and128 (c : UInt8) : bits .and .u8 (c.toNat : Int) 128 = if 128 ≤ c.toNat then 128 else 0 := by
  have h : ∀ a : Fin 256, bits .and .u8 ((a.val : Nat) : Int) 128 = if 128 ≤ a.val then 128 else 0 := by decide +kernel
  exact h ⟨c.toNat, c.toNat_lt⟩
theorem or64 (a b : Nat) (ha : a < 18446744073709551616) (hb : b < 18446744073709551616) : bits .or .u64 (a : Int) (b : Int) = ((a ||| b : Nat) : Int) := by
  show IntKind.u64.wrap (((BitVec.ofInt 64 (a : Int)) ||| (BitVec.ofInt 64 (b : Int))).toNat : Int) = _
  have h1 : (BitVec.ofInt 64 (a : Int)).toNat = a := by simp; omega
  have h2 : (BitVec.ofInt 64 (b : Int)).toNat = b := by simp; omega
  have h3 : (a ||| b) < 2 ^ 64 := Nat.or_lt_two_pow (by omega) (by omega)
  rw [BitVec.toNat_or, h1, h2]
  simp only [IntKind.wrap, IntKind.bits, IntKind.signed]
  simp
  omega
theorem and64 (a b : Nat) (ha : a < 18446744073709551616) (hb : b < 18446744073709551616) : bits .and .u64 (a : Int) (b : Int) = ((a &&& b : Nat) : Int) := by
  show IntKind.u64.wrap (((BitVec.ofInt 64 (a : Int)) &&& (BitVec.ofInt 64 (b : Int))).toNat : Int) = _
  have h1 : (BitVec.ofInt 64 (a : Int)).toNat = a := by simp; omega
  have h2 : (BitVec.ofInt 64 (b : Int)).toNat = b := by simp; omega
  have h3 : (a &&& b) < 2 ^ 64 := Nat.and_lt_two_pow _ (by omega)
  rw [BitVec.toNat_and, h1, h2]
  simp only [IntKind.wrap, IntKind.bits, IntKind.signed]
  simp
  omega
theorem pow_7 (k : Nat) : 2 ^ (7 * k) = 128 ^ k := by rw [Nat.pow_mul]
/-- one more group of seven bits -/
theorem or_step (k g x : Nat) (hk : k ≤ 9) (hg : g < 128 ^ k) (hx : x < 128) (hx9 : k = 9 → x ≤ 1) :
    bits .or .u64 (g : Int) (IntKind.u64.wrap (IntKind.u64.wrap (x : Int) * 2 ^ (7 * k))) = ((g + x * 128 ^ k : Nat) : Int) ∧ g + x * 128 ^ k < 18446744073709551616 ∧ (k < 9 → g + x * 128 ^ k < 128 ^ (k + 1)) := by
  have h0 : IntKind.u64.wrap (x : Int) = x := by simp [IntKind.wrap, IntKind.bits, IntKind.signed]; omega
  have hle : 128 ^ k ≤ 9223372036854775808 := by
    have : 128 ^ k ≤ 128 ^ 9 := Nat.pow_le_pow_right (by decide) hk
    omega
  have hb : x * 128 ^ k < 18446744073709551616 ∧ g + x * 128 ^ k < 18446744073709551616 ∧ (k < 9 → g + x * 128 ^ k < 128 ^ (k + 1)) := by
    rcases Nat.lt_or_ge k 9 with h | h
    · have h1 : 128 ^ (k + 1) ≤ 9223372036854775808 := by
        have : 128 ^ (k + 1) ≤ 128 ^ 9 := Nat.pow_le_pow_right (by decide) h
        omega
      have h2 : x * 128 ^ k + 128 ^ k ≤ 128 ^ (k + 1) := by
        rw [Nat.pow_succ, Nat.mul_comm (128 ^ k) 128, ← Nat.succ_mul]
        exact Nat.mul_le_mul_right _ hx
      exact ⟨by omega, by omega, fun _ => by omega⟩
    · have h9 : k = 9 := by omega
      subst h9
      have := hx9 rfl
      have h2 : x * 128 ^ 9 ≤ 1 * 128 ^ 9 := Nat.mul_le_mul_right _ this
      exact ⟨by omega, by omega, fun h => by omega⟩
  refine ⟨?_, hb.2⟩
  have h3 : (x : Int) * 2 ^ (7 * k) = ((x * 128 ^ k : Nat) : Int) := by
    rw [Int.natCast_mul, ← pow_7 k]; simp
  rw [h0, h3]
  have h4 : IntKind.u64.wrap ((x * 128 ^ k : Nat) : Int) = ((x * 128 ^ k : Nat) : Int) := by
    simp only [IntKind.wrap, IntKind.bits, IntKind.signed]
    simp only [Bool.false_and, if_false, Bool.false_eq_true]
    omega
  rw [h4, or64 _ _ (by omega) hb.1]
  congr 1
  rw [Nat.or_comm, Nat.mul_comm, ← pow_7 k, ← Nat.two_pow_add_eq_or_of_lt (by rw [pow_7]; exact hg), Nat.add_comm, Nat.mul_comm]

theorem or_step' (k g c : Nat) (hk : k ≤ 9) (hg : g < 128 ^ k) (hx9 : k = 9 → c % 128 ≤ 1) :
    bits .or .u64 (g : Int) (IntKind.u64.wrap ((c : Int) % 128 * 2 ^ (7 * k))) = ((g + c % 128 * 128 ^ k : Nat) : Int) ∧ g + c % 128 * 128 ^ k < 18446744073709551616 ∧ (k < 9 → g + c % 128 * 128 ^ k < 128 ^ (k + 1)) := by
  have h := or_step k g (c % 128) hk hg (by omega) hx9
  have h0 : IntKind.u64.wrap ((c % 128 : Nat) : Int) = (c : Int) % 128 := by simp [IntKind.wrap, IntKind.bits, IntKind.signed]; omega
  rw [h0] at h
  exact h

theorem unf_eq (f : Nat) (hf : f < 18446744073709551616) : bits .xor .i64 ((f : Int) / 2) (wrap64 (-wrap64 (bits .and .u64 (f : Int) 1))) = unfI f := by
  have h1 : bits .and .u64 (f : Int) 1 = ((f % 2 : Nat) : Int) := by
    have := and64 f 1 hf (by decide)
    rw [Nat.and_one_is_mod] at this
    exact this
  have h2 : (f : Int) / 2 = ((f / 2 : Nat) : Int) := by omega
  rw [h1, h2]
  unfold unfI
  rcases Nat.mod_two_eq_zero_or_one f with h | h
  · rw [h, if_neg (by omega)]
    show IntKind.i64.wrap (((BitVec.ofInt 64 ((f / 2 : Nat) : Int)) ^^^ (BitVec.ofInt 64 (wrap64 (-wrap64 ((0 : Nat) : Int))))).toNat : Int) = _
    have h3 : wrap64 (-wrap64 ((0 : Nat) : Int)) = 0 := by unfold wrap64; omega
    rw [h3]
    have h4 : (BitVec.ofInt 64 ((f / 2 : Nat) : Int)).toNat = f / 2 := by simp; omega
    have h5 : (BitVec.ofInt 64 0) = 0#64 := by decide
    rw [h5, BitVec.xor_zero, h4, IntKind.wrap_i64]
    omega
  · rw [h, if_pos rfl]
    show IntKind.i64.wrap (((BitVec.ofInt 64 ((f / 2 : Nat) : Int)) ^^^ (BitVec.ofInt 64 (wrap64 (-wrap64 ((1 : Nat) : Int))))).toNat : Int) = _
    have h3 : wrap64 (-wrap64 ((1 : Nat) : Int)) = -1 := by unfold wrap64; omega
    rw [h3]
    have h4 : (BitVec.ofInt 64 ((f / 2 : Nat) : Int)).toNat = f / 2 := by simp; omega
    have h5 : (BitVec.ofInt 64 (-1)) = BitVec.allOnes 64 := by decide
    rw [h5, BitVec.xor_allOnes, BitVec.toNat_not, h4, IntKind.wrap_i64]
    omega

theorem unfold_any (f : Nat) (w : World) (hf : f < 18446744073709551616) : Calls Try.prog 40 #[.int .u64 (f : Int)] w fun e w' => e = .returned (.int .i64 (unfI f)) ∧ w = w' := by
  go_enter Try.func40, Try.ntmps40
  go_wp2
  go_ret
  exact ⟨ret_int (unf_eq f hf), rfl⟩

theorem getElem?_bytes (s : ByteArray) (k : Nat) (h : k < s.size) : s.data.toList[k]? = some s[k] := by
  have h' : k < s.data.size := h
  rw [Array.getElem?_toList, Array.getElem?_eq_getElem h']
  rfl
theorem getElem?_bytes_none (s : ByteArray) (k : Nat) (h : s.size ≤ k) : s.data.toList[k]? = none := by
  have h' : s.data.size ≤ k := h
  rw [Array.getElem?_toList, Array.getElem?_eq_none h']

set_option maxRecDepth 100000 in
theorem number_any (s : ByteArray) (w : World) : Calls Try.prog 36 #[.string s] w fun e w' =>
    e = .returned (.tuple #[.int .i64 (numF s.data.toList).1, .int .i64 ((numF s.data.toList).2.1 : Int), .int .i64 ((numF s.data.toList).2.2 : Int)]) ∧ w = w' := by
  go_enter Try.func36, Try.ntmps36
  go_wp2
  go_loop [5, 8] (fun f i => ∃ (k g : Nat), k ≤ 10 ∧ k ≤ s.size ∧ i = .int .i64 k ∧ f = .int .u64 g ∧ (k ≤ 9 → g < 128 ^ k) ∧ numR s.data.toList (10 - k) k g = numF s.data.toList) (fun _ i => 10 - (intOf i).toNat)
  case atStart => exact ⟨0, 0, by omega, by omega, rfl, rfl, by simp, rfl⟩
  case round =>
    obtain ⟨k, g, hk, hks, rfl, rfl, hg, hn⟩ := hrel
    have Hn := Lib.hid hn
    have Hg := Lib.hid hg
    clear hn hg
    by_cases h10 : k < 10
    · have h10' : 10 - k = (9 - k) + 1 := by omega
      by_cases hlt : k < s.size
      · have hne : ((k : Int) == (s.size : Int)) = false := by simp; omega
        have h127 := u8_and127 s[k]
        have h128 := u8_and128 s[k]
        have hstep := Hn.out
        rw [h10', numR, getElem?_bytes s k hlt] at hstep
        simp only [] at hstep
        have Hstep := Lib.hid hstep
        clear hstep
        have Ho := Lib.hid (or_step' k g s[k].toNat (by omega) (Hg.out (by omega)))
        have hc256 := s[k].toNat_lt
        by_cases h9 : k = 9
        · subst h9
          by_cases hc : s[9].toNat = 1
          · rw [if_neg (by omega)] at h128
            have hne1 : ((s[9].toNat : Int) != 1) = false := by simp; omega
            have hne0 : ((s[9].toNat : Int) == 0) = false := by simp; omega
            have hst := Hstep.out
            rw [if_neg (by omega), if_neg (by omega), if_neg (by omega)] at hst
            have hoo9 : bits .or .u64 (g : Int) (IntKind.u64.wrap ((s[9].toNat : Int) % 128 * 9223372036854775808)) = ((g + s[9].toNat % 128 * 128 ^ 9 : Nat) : Int) := (Ho.out (by omega)).1
            have Hst := Lib.hid hst
            have Hoo9 := Lib.hid hoo9
            have Hoo := Lib.hid (Ho.out (by omega)).2.1
            clear hst hc256 hoo9 hc
            go_wp2_with fail
            rw [Hoo9.out]
            refine (unfold_any _ w Hoo.out).mono ?_
            rintro e w' ⟨rfl, rfl⟩
            go_wp2_with fail
            refine bodyPost_ret (v := .tuple #[.int .i64 (unfI (g + s[9].toNat % 128 * 128 ^ 9)), .int .i64 10, .int .i64 0]) (by simp [results, Try.results36, go_sem]) rfl ⟨?_, rfl⟩
            rw [← Hst.out]; rfl
          · have hc' : ((s[9].toNat : Int) != 1) = true := by simp; omega
            clear h127 h128
            have hst := Hstep.out
            rw [if_pos ⟨rfl, hc⟩] at hst
            have Hst := Lib.hid hst
            clear hst
            go_wp2_with fail
            refine bodyPost_ret (v := .tuple #[.int .i64 0, .int .i64 0, .int .i64 4]) (by simp [results, Try.results36, go_sem]) rfl ⟨?_, rfl⟩
            rw [← Hst.out]; rfl
        · have hne9 : ((k : Int) == 9) = false := by simp; omega
          by_cases hc : 128 ≤ s[k].toNat
          · rw [if_pos hc] at h128
            have hst := Hstep.out
            rw [if_neg (by omega), if_pos hc] at hst
            have Hst := Lib.hid hst
            clear hst
            go_wp2_with fail
            go_round
            case rel => exact ⟨k + 1, _, by omega, by omega, by go_num, by rw [(Ho.out (by omega)).1], fun h => (Ho.out (by omega)).2.2 (by omega), by rw [← Hst.out]; congr 1; omega⟩
            case measure => simp [intOf]; omega
          · rw [if_neg hc] at h128
            have hst := Hstep.out
            rw [if_neg (by omega), if_neg hc] at hst
            by_cases hz : s[k].toNat = 0 ∧ 0 < k
            · rw [if_pos hz] at hst
              have Hst := Lib.hid hst
              have hz0 : ((s[k].toNat : Int) == 0) = true := by simp; omega
              have hkn : 0 < k := hz.2
              clear hst hc256 hc hz
              go_wp2_with fail
              refine bodyPost_ret (v := .tuple #[.int .i64 0, .int .i64 0, .int .i64 4]) (by simp [results, Try.results36, go_sem]) rfl ⟨?_, rfl⟩
              rw [← Hst.out]; rfl
            · rw [if_neg hz] at hst
              have Hst := Lib.hid hst
              clear hst hc256
              by_cases hc0 : s[k].toNat = 0
              · have hk0 : k = 0 := by omega
                subst hk0
                have hz0 : ((s[0].toNat : Int) == 0) = true := by simp; omega
                have hoo := (Ho.out (by omega)).1
                have hwr : IntKind.u64.wrap ((s[0].toNat : Int) % 128 * 2 ^ (7 * 0)) = (s[0].toNat : Int) % 128 := by
                  simp [IntKind.wrap, IntKind.bits, IntKind.signed]; omega
                rw [hwr] at hoo
                have Hoo := Lib.hid hoo
                clear hc0 hc hz hne9 h9 hoo hwr
                go_wp2_with fail
                rw [Hoo.out]
                refine (unfold_any _ w (Ho.out (by omega)).2.1).mono ?_
                rintro e w' ⟨rfl, rfl⟩
                go_wp2_with fail
                refine bodyPost_ret (v := .tuple #[.int .i64 (unfI (g + s[0].toNat % 128 * 128 ^ 0)), .int .i64 1, .int .i64 0]) (by simp [results, Try.results36, go_sem]) rfl ⟨?_, rfl⟩
                rw [← Hst.out]; rfl
              · have hz0 : ((s[k].toNat : Int) == 0) = false := by simp; omega
                clear hc hz
                go_wp2_with fail
                rw [(Ho.out (by omega)).1]
                refine (unfold_any _ w (Ho.out (by omega)).2.1).mono ?_
                rintro e w' ⟨rfl, rfl⟩
                go_wp2_with fail
                refine bodyPost_ret (v := .tuple #[.int .i64 (unfI (g + s[k].toNat % 128 * 128 ^ k)), .int .i64 ((k + 1 : Nat) : Int), .int .i64 0]) (by simp [results, Try.results36, go_sem]) rfl ⟨?_, rfl⟩
                rw [← Hst.out]; rfl
      · have hks' : k = s.size := by omega
        subst hks'
        have hst := Hn.out
        rw [h10', numR, getElem?_bytes_none s _ (Nat.le_refl _)] at hst
        simp only [] at hst
        have Hst := Lib.hid hst
        clear hst
        go_wp2_with fail
        refine bodyPost_ret (v := .tuple #[.int .i64 0, .int .i64 0, .int .i64 3]) (by simp [results, Try.results36, go_sem]) rfl ⟨?_, rfl⟩
        rw [← Hst.out]; rfl
    · have h10' : k = 10 := by omega
      subst h10'
      have hst := Hn.out
      simp only [Nat.sub_self, numR] at hst
      have Hst := Lib.hid hst
      clear hst
      go_wp2_with fail
      refine bodyPost_ret (v := .tuple #[.int .i64 0, .int .i64 0, .int .i64 4]) (by simp [results, Try.results36, go_sem]) rfl ⟨?_, rfl⟩
      rw [← Hst.out]; rfl
end Go.Proofs.Ythigpdalmdmebaa
