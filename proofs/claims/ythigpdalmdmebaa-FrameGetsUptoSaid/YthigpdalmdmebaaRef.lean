/- The document's answers for frames, as the program's reference reckons them: the sum, a number's bytes, a frame's bytes, a number out of bytes. -/
import Derived.Test.YthigpdalmdmebaaBurst
namespace Go.Proofs.Ythigpdalmdmebaa
open Go Go.RowKit

theorem lsb_mod (e : BitVec 32) : e.toNat % 2 = if e.getLsbD 0 then 1 else 0 := by
  rw [BitVec.getLsbD, Nat.testBit_zero]
  rcases Nat.mod_two_eq_zero_or_one e.toNat with h | h <;> simp [h]
theorem odd_step (e : BitVec 32) (h : e.getLsbD 0 = true) : bits .xor .u32 ((e.toNat : Int) / 2) 3988292384 = ((bitF e).toNat : Int) := by
  rw [bitF_odd e h]
  have h2 : ((e.toNat : Int) / (2 : Int)) = (((e >>> 1 : BitVec 32).toNat : Nat) : Int) := by
    simp [BitVec.toNat_ushiftRight, Nat.shiftRight_eq_div_pow]
  have h4 : ((3988292384 : Int)) = (((3988292384#32 : BitVec 32).toNat : Nat) : Int) := by decide
  rw [h2, h4, bits_xor32]
theorem even_step (e : BitVec 32) (h : e.getLsbD 0 = false) : ((e.toNat : Int) / 2) = ((bitF e).toNat : Int) := by
  rw [bitF_even e h]
  simp [BitVec.toNat_ushiftRight, Nat.shiftRight_eq_div_pow]
theorem refMore_any (c : BitVec 32) (s : ByteArray) (w : World) (hs : s.size ≤ 9223372036854775807) :
    Calls Try.prog 39 #[.int .u32 (c.toNat : Int), .string s] w fun e w' => e = .returned (.int .u32 ((moreF c s.data.toList).toNat : Int)) ∧ w = w' := by
  have h0 := bits_not32 c
  have H0 := Lib.hid h0
  clear h0
  go_enter Try.func39, Try.ntmps39
  go_wp2
  go_loop [5, 6] (fun r i => ∃ (k : Nat) (d : BitVec 32), k ≤ s.size ∧ i = .int .i64 k ∧ d = regF (~~~c) (s.data.toList.take k) ∧ r = .int .u32 (d.toNat : Int)) (fun _ i => s.size - (intOf i).toNat)
  case atStart => exact ⟨0, _, by omega, rfl, rfl, by rw [H0.out]; rfl⟩
  case round =>
    obtain ⟨k, d, hk, rfl, hd, rfl⟩ := hrel
    have Hd := Lib.hid hd
    clear hd
    by_cases hlt : k < s.size
    · have hlt' : k < s.data.toList.length := by simpa using hlt
      have hs' := regF_snoc (~~~c) s.data.toList k hlt'
      have he : s.data.toList[k] = s[k] := by
        have := getElem?_bytes s k hlt
        rw [List.getElem?_eq_getElem hlt'] at this
        injection this
      rw [he] at hs'
      have Hs := Lib.hid hs'
      clear hs' he
      have Hb := Lib.hid (bits_byte d s[k])
      go_wp2
      go_loop [5, 7] (fun r i => ∃ (j : Nat) (e : BitVec 32), j ≤ 8 ∧ i = .int .i64 j ∧ e = bitsF j (d ^^^ BitVec.ofNat 32 s[k].toNat) ∧ r = .int .u32 (e.toNat : Int)) (fun _ i => 8 - (intOf i).toNat)
      case atStart => exact ⟨0, _, by omega, rfl, rfl, by rw [Hb.out]; rfl⟩
      case round =>
        obtain ⟨j, e, hj, rfl, he, rfl⟩ := hrel
        have He := Lib.hid he
        clear he
        by_cases hl : j < 8
        · cases hbit : e.getLsbD 0 with
          | true =>
            have hm := lsb_mod e
            rw [hbit] at hm
            simp only [if_true] at hm
            have hr : (e.toNat : Int) % 2 = 1 := by omega
            have Hst := Lib.hid (odd_step e hbit)
            clear hm hbit
            go_wp2
            go_round
            case rel => exact ⟨j + 1, bitF e, by omega, by go_num, by rw [He.out]; rfl, by rw [Hst.out]⟩
            case measure => simp [intOf]; omega
          | false =>
            have hm := lsb_mod e
            rw [hbit] at hm
            simp only [Bool.false_eq_true, if_false] at hm
            have hr : (e.toNat : Int) % 2 = 0 := by omega
            have Hst := Lib.hid (even_step e hbit)
            clear hm hbit
            go_wp2
            go_round
            case rel => exact ⟨j + 1, bitF e, by omega, by go_num, by rw [He.out]; rfl, by rw [Hst.out]⟩
            case measure => simp [intOf]; omega
        · have hj8 : j = 8 := by omega
          subst hj8
          go_wp2
          go_round
          case rel => exact ⟨k + 1, e, by omega, by go_num, by rw [Hs.out, He.out, Hd.out]; rfl, rfl⟩
          case measure => simp [intOf]; omega
    · have hk' : k = s.size := by omega
      subst hk'
      go_wp2
      go_ret
      refine ⟨?_, rfl⟩
      rw [bits_not32, Hd.out, List.take_of_length_le (by simp)]
      rfl

theorem refSum_any (s : ByteArray) (w : World) (hs : s.size ≤ 9223372036854775807) :
    Calls Try.prog 32 #[.string s] w fun e w' => e = .returned (.int .u32 ((moreF 0#32 s.data.toList).toNat : Int)) ∧ w = w' := by
  go_enter Try.func32, Try.ntmps32
  go_wp2_with fail
  refine (refMore_any 0#32 s w hs).mono ?_
  rintro e w' ⟨rfl, rfl⟩
  go_wp2
  go_ret
  exact ⟨rfl, rfl⟩
theorem refFold_any (n : Nat) (w : World) (hn : n ≤ 4611686018427387903) : Calls Try.prog 38 #[.int .i64 (n : Int)] w fun e w' => e = .returned (.int .u64 ((2 * n : Nat) : Int)) ∧ w = w' := by
  go_enter Try.func38, Try.ntmps38
  go_wp2
  go_ret
  refine ⟨?_, rfl⟩
  show Ending.returned (Value.int IntKind.u64 ((n : Int) * 2)) = _
  congr 2
  omega
theorem refUnfold_any (f : Nat) (w : World) (hf : f < 18446744073709551616) : Calls Try.prog 37 #[.int .u64 (f : Int)] w fun e w' => e = .returned (.int .i64 (unfI f)) ∧ w = w' := by
  rcases Nat.mod_two_eq_zero_or_one f with h | h
  · have hr : (f : Int) % 2 = 0 := by omega
    go_enter Try.func37, Try.ntmps37
    go_wp2
    go_ret
    refine ⟨?_, rfl⟩
    simp only [unfI, h]
    congr 2
    done
  · have hr : (f : Int) % 2 = 1 := by omega
    go_enter Try.func37, Try.ntmps37
    go_wp2
    go_ret
    refine ⟨?_, rfl⟩
    simp only [unfI, h]
    congr 2
    done

set_option maxRecDepth 100000 in
theorem refInt_any (n : Nat) (w : World) (hn : n ≤ 1048576) : Calls Try.prog 31 #[.int .i64 (n : Int)] w fun e w' =>
    e = .returned (.string ⟨(longF n).toArray⟩) ∧ Below w.heap.size w w' := by
  obtain ⟨i0, hi, hz0, hz1, hz2⟩ := info_parts Try.info5
  go_enter Try.func31, Try.ntmps31
  go_wp2_with fail
  refine (refFold_any n w (by omega)).mono ?_
  rintro e w' ⟨rfl, rfl⟩
  go_wp2
  go_loopw [3, 4] (fun f v wr => ∃ (xs : List UInt8) (g k : Nat), k + xs.length = 9 ∧ (g ≤ 2097152 ∧ (k = 0 → g < 128) ∧ (k = 1 → g < 16384) ∧ (k = 2 → g < 2097152)) ∧ f = .int .u64 (g : Int) ∧ xs ++ vint k g = longF n ∧ wr.ownsRow w.heap.size 5 1 v xs.length (xs.map byteV) ∧ Below w.heap.size w wr) (fun f _ _ => (intOf f).toNat)
  case atStart => exact ⟨[], 2 * n, 9, rfl, ⟨by omega, by omega, by omega, by omega⟩, rfl, rfl, World.ownsRow_nil _ _ _ _, Below.refl _ _⟩
  case round =>
    obtain ⟨xs, g, k, hk, ⟨hg, hg0, hg1, hg2⟩, rfl, hv, hown, hb⟩ := hrel
    obtain ⟨V, c, rfl⟩ := own_form hown
    have Hg := Lib.hid (And.intro hg0 (And.intro hg1 hg2))
    clear hg0 hg1 hg2
    have Hv := Lib.hid hv
    have Hk := Lib.hid hk
    have Hown := Lib.hid hown
    have Hb := Lib.hid hb
    clear hv hk hown hb
    have hbase : w.heap.size ≤ wr.heap.size := Hb.out.size
    have hx9 : xs.length ≤ 9 := by have := Hk.out; omega
    by_cases hlt : g < 128
    · have hnl : ¬ (128 ≤ g) := by omega
      go_wp2_with (at_builtin; refine wpList_append_own _ rfl _ _ 22 rfl w.heap.size 5 i0 (.int .u8 0) 1 1 Try.underlying22 hi hz0 hz1 hz2 rfl (by decide) _ _ _ rfl (Hown.out.alloc _) ⟨wr.heap.size, 0, none⟩ 1 1 [.int .u8 (g : Int)] rfl rfl ?c1 ?c2 ?c3 ?c4 ?c5 ?_)
      case c1 => exact World.news_of_block (heap_alloc_new _ _)
      case c2 => intro u hu; obtain rfl := List.mem_singleton.1 hu; rfl
      case c3 => simp only [maxLen]; omega
      case c4 => omega
      case c5 => simp; omega
      intro v' w1 hown' hgrow _
      obtain ⟨V', c', rfl⟩ := own_form hown'
      have hv : longF n = xs ++ [UInt8.ofNat g] := by
        rw [← Hv.out]
        congr 1
        cases k <;> simp [vint, hlt]
      have hg8 : byteV (UInt8.ofNat g) = .int .u8 (g : Int) := by
        unfold byteV; simp; omega
      have hrb : RB w1 V' (longF n) := by
        refine RB.of_own (base := w.heap.size) (c := c') ?_
        rw [hv, List.map_append, List.length_append]
        simp only [List.map_cons, List.map_nil, hg8]
        exact hown'
      have hln : (longF n).length = xs.length + 1 := by rw [hv]; simp
      have hcv := conv_bytes w1 V' c' (longF n) hrb
      rw [hln] at hcv
      have Hgrow := Lib.hid hgrow
      obtain ⟨t, ht⟩ : ∃ t : ByteArray, t = ⟨(longF n).toArray⟩ := ⟨_, rfl⟩
      rw [← ht] at hcv
      have Ht := Lib.hid ht
      clear hown' hgrow hv hrb hln ht
      go_wp2
      go_ret
      refine ⟨by rw [← Ht.out]; rfl, ?_⟩
      exact (Hb.out.alloc hbase _).grown Hgrow.out (by simp; omega) (fun k hk => (Hown.out.lt k hk).1)
    · go_wp2_with (at_builtin; refine wpList_append_own _ rfl _ _ 22 rfl w.heap.size 5 i0 (.int .u8 0) 1 1 Try.underlying22 hi hz0 hz1 hz2 rfl (by decide) _ _ _ rfl (Hown.out.alloc _) ⟨wr.heap.size, 0, none⟩ 1 1 [.int .u8 ((g : Int) % 128 + 128)] rfl rfl ?c1 ?c2 ?c3 ?c4 ?c5 ?_)
      case c1 => exact World.news_of_block (heap_alloc_new _ _)
      case c2 => intro u hu; obtain rfl := List.mem_singleton.1 hu; rfl
      case c3 => simp only [maxLen]; omega
      case c4 => omega
      case c5 => simp; omega
      intro v' w1 hown' hgrow _
      have Hown' := Lib.hid hown'
      have Hgrow := Lib.hid hgrow
      clear hown' hgrow
      go_wp2
      have hg3 := Hg.out
      obtain ⟨k, rfl⟩ : ∃ m, k = m + 1 := ⟨k - 1, by omega⟩
      refine ⟨⟨xs ++ [UInt8.ofNat (g % 128 + 128)], g / 128, k, ?_, ⟨by omega, by omega, by omega, by omega⟩, by simp, ?_, ?_, ?_⟩, ?_⟩
      · have := Hk.out; simp; omega
      · rw [← Hv.out, List.append_assoc]; congr 1; simp [vint, hlt]
      · have hg8 : byteV (UInt8.ofNat (g % 128 + 128)) = .int .u8 ((g % 128 + 128 : Nat) : Int) := by
          unfold byteV; congr 1; simp; omega
        rw [List.map_append, List.length_append]
        simp only [List.map_cons, List.map_nil, hg8, List.length_singleton]
        exact Hown'.out
      · exact (Hb.out.alloc hbase _).grown Hgrow.out (by simp; omega) (fun k hk => (Hown.out.lt k hk).1)
      · simp [intOf]; omega

theorem conv_le4 (c : BitVec 32) (w : World) : (convert 22 9 (.slice (some ⟨w.heap.size, 0, none⟩) 4 4)).run Try.prog (w.alloc (.cells #[.int .u8 ((c.toNat : Int) % 256), .int .u8 ((c.toNat : Int) / 256 % 256), .int .u8 ((c.toNat : Int) / 65536 % 256), .int .u8 ((c.toNat : Int) / 16777216)] 5)) =
    .ok (.string ⟨(le4 c).toArray⟩) (w.alloc (.cells #[.int .u8 ((c.toNat : Int) % 256), .int .u8 ((c.toNat : Int) / 256 % 256), .int .u8 ((c.toNat : Int) / 65536 % 256), .int .u8 ((c.toNat : Int) / 16777216)] 5)) := by
  have hc := c.isLt
  obtain ⟨x0, x1, x2, x3, h4, hv⟩ := lowV_eq c
  unfold lowV at hv
  injection hv with hv
  rw [hv, h4]
  have hb := heap_alloc_new w (Obj.cells #[.int .u8 (x0.toNat : Int), .int .u8 (x1.toNat : Int), .int .u8 (x2.toNat : Int), .int .u8 (x3.toNat : Int)] 5)
  refine conv_bytes _ (some ⟨w.heap.size, 0, none⟩) 4 [x0, x1, x2, x3] (fun _ => ⟨w.heap.size, 0, rfl, by simp, fun j hj => ?_⟩)
  rw [cell_of_row _ _ _ _ _ _ hb]
  have hj' : j < 4 := by simpa using hj
  rcases (show j = 0 ∨ j = 1 ∨ j = 2 ∨ j = 3 by omega) with rfl | rfl | rfl | rfl <;> rfl
theorem S_append (a b : List UInt8) : (⟨a.toArray⟩ : ByteArray) ++ ⟨b.toArray⟩ = ⟨(a ++ b).toArray⟩ := by
  apply ByteArray.ext
  simp
set_option maxRecDepth 100000 in
theorem refFrame_any (xs : List UInt8) (w : World) (hn : xs.length ≤ 1048576) : Calls Try.prog 22 #[.string ⟨xs.toArray⟩] w fun e w' =>
    e = .returned (.string ⟨(frameF xs).toArray⟩) ∧ Below w.heap.size w w' := by
  have hsz : (⟨xs.toArray⟩ : ByteArray).size = xs.length := rfl
  go_enter Try.func22, Try.ntmps22
  go_wp2_with fail
  refine (refInt_any xs.length w hn).mono ?_
  rintro e w1 ⟨rfl, hb1⟩
  have Hb1 := Lib.hid hb1
  clear hb1
  have happ := S_append (longF xs.length) xs
  have hll := longF_len xs.length
  go_wp2_with fail
  refine (refSum_any ⟨(longF xs.length ++ xs).toArray⟩ w1 (by show (longF xs.length ++ xs).toArray.size ≤ _; simp; omega)).mono ?_
  rintro e w' ⟨rfl, rfl⟩
  have hc : (⟨(longF xs.length ++ xs).toArray⟩ : ByteArray).data.toList = longF xs.length ++ xs := by simp
  rw [hc]
  obtain ⟨c, hcc⟩ : ∃ c, c = moreF 0#32 (longF xs.length ++ xs) := ⟨_, rfl⟩
  rw [← hcc]
  have Hcc := Lib.hid hcc
  clear hcc hc happ
  have hcl := c.isLt
  have hcv := conv_le4 c
  have happ := S_append (longF xs.length ++ xs) (le4 c)
  have hs4 : (⟨(le4 c).toArray⟩ : ByteArray).size = 4 := rfl
  have hs5 : (le4 c).length = 4 := rfl
  go_wp2_with fail
  refine bodyPost_ret (v := .string ⟨(longF xs.length ++ (xs ++ le4 c)).toArray⟩) (by simp [results, Try.results22, go_sem]) rfl ⟨?_, Hb1.out.alloc Hb1.out.size _⟩
  unfold frameF
  rw [more_append, ← Hcc.out, List.append_assoc]

theorem add_step' (k g c : Nat) (hk : k ≤ 9) (hg : g < 128 ^ k) (hx9 : k = 9 → c % 128 ≤ 1) :
    IntKind.u64.wrap ((g : Int) + IntKind.u64.wrap ((c : Int) % 128 * 2 ^ (7 * k))) = ((g + c % 128 * 128 ^ k : Nat) : Int) ∧ g + c % 128 * 128 ^ k < 18446744073709551616 ∧ (k < 9 → g + c % 128 * 128 ^ k < 128 ^ (k + 1)) := by
  have h := or_step' k g c hk hg hx9
  refine ⟨?_, h.2⟩
  have h2 := h.2.1
  have h3 : (c : Int) % 128 * 2 ^ (7 * k) = ((c % 128 * 128 ^ k : Nat) : Int) := by
    rw [Int.natCast_mul, ← pow_7 k]; simp
  rw [h3, IntKind.wrap_u64, IntKind.wrap_u64]
  generalize c % 128 * 128 ^ k = y at *
  omega
set_option maxRecDepth 100000 in
theorem refNumber_any (s : ByteArray) (w : World) (hs63 : s.size ≤ 140737488351232) : Calls Try.prog 29 #[.string s, .int .i64 0] w fun e w' =>
    e = .returned (.tuple #[.int .i64 (numF s.data.toList).1, .int .i64 ((numF s.data.toList).2.1 : Int), .int .i64 ((numF s.data.toList).2.2 : Int)]) ∧ w = w' := by
  go_enter Try.func29, Try.ntmps29
  go_wp2
  go_loop [7, 8] (fun f i => ∃ (k g : Nat), k ≤ 10 ∧ k ≤ s.size ∧ i = .int .i64 k ∧ f = .int .u64 g ∧ (k ≤ 9 → g < 128 ^ k) ∧ numR s.data.toList (10 - k) k g = numF s.data.toList) (fun _ i => 10 - (intOf i).toNat)
  case atStart => exact ⟨0, 0, by omega, by omega, rfl, rfl, by simp, rfl⟩
  case round =>
    obtain ⟨k, g, hk, hks, rfl, rfl, hg, hn⟩ := hrel
    have Hn := Lib.hid hn
    have Hg := Lib.hid hg
    clear hn hg
    by_cases h10 : k < 10
    · have h10' : 10 - k = (9 - k) + 1 := by omega
      by_cases hlt : k < s.size
      · have hstep := Hn.out
        rw [h10', numR, getElem?_bytes s k hlt] at hstep
        simp only [] at hstep
        have Hstep := Lib.hid hstep
        clear hstep
        have hc256 := s[k].toNat_lt
        have Ho := Lib.hid (add_step' k g s[k].toNat (by omega) (Hg.out (by omega)))
        by_cases h9 : k = 9
        · subst h9
          by_cases hc : s[9].toNat = 1
          · have hne1 : ((s[9].toNat : Int) != 1) = false := by simp; omega
            have hne0 : ((s[9].toNat : Int) == 0) = false := by simp; omega
            have hst := Hstep.out
            rw [if_neg (by omega), if_neg (by omega), if_neg (by omega)] at hst
            have hoo9 : IntKind.u64.wrap ((g : Int) + IntKind.u64.wrap ((s[9].toNat : Int) % 128 * 9223372036854775808)) = ((g + s[9].toNat % 128 * 128 ^ 9 : Nat) : Int) := (Ho.out (by omega)).1
            have Hst := Lib.hid hst
            have Hoo9 := Lib.hid hoo9
            have Hoo := Lib.hid (Ho.out (by omega)).2.1
            have hc128 : (s[9].toNat : Int) < 128 := by omega
            clear hst hc256 hoo9 hc
            go_wp2_with fail
            rw [Hoo9.out]
            refine (refUnfold_any _ w Hoo.out).mono ?_
            rintro e w' ⟨rfl, rfl⟩
            go_wp2_with fail
            refine bodyPost_ret (v := .tuple #[.int .i64 (unfI (g + s[9].toNat % 128 * 128 ^ 9)), .int .i64 10, .int .i64 0]) (by simp [results, Try.results29, go_sem]) rfl ⟨?_, rfl⟩
            rw [← Hst.out]; rfl
          · have hc' : ((s[9].toNat : Int) != 1) = true := by simp; omega
            have hst := Hstep.out
            rw [if_pos ⟨rfl, hc⟩] at hst
            have Hst := Lib.hid hst
            clear hst
            go_wp2_with fail
            refine bodyPost_ret (v := .tuple #[.int .i64 0, .int .i64 0, .int .i64 4]) (by simp [results, Try.results29, go_sem]) rfl ⟨?_, rfl⟩
            rw [← Hst.out]; rfl
        · have hne9 : ((k : Int) == 9) = false := by simp; omega
          by_cases hc : 128 ≤ s[k].toNat
          · have hst := Hstep.out
            rw [if_neg (by omega), if_pos hc] at hst
            have Hst := Lib.hid hst
            clear hst
            go_wp2_with fail
            go_round
            case rel => exact ⟨k + 1, _, by omega, by omega, by go_num, by rw [(Ho.out (by omega)).1], fun h => (Ho.out (by omega)).2.2 (by omega), by rw [← Hst.out]; congr 1; omega⟩
            case measure => simp [intOf]; omega
          · have hst := Hstep.out
            rw [if_neg (by omega), if_neg hc] at hst
            have hc128 : (s[k].toNat : Int) < 128 := by omega
            by_cases hz : s[k].toNat = 0 ∧ 0 < k
            · rw [if_pos hz] at hst
              have Hst := Lib.hid hst
              have hz0 : ((s[k].toNat : Int) == 0) = true := by simp; omega
              have hkn : 0 < k := hz.2
              clear hst hc256 hc hz
              go_wp2_with fail
              refine bodyPost_ret (v := .tuple #[.int .i64 0, .int .i64 0, .int .i64 4]) (by simp [results, Try.results29, go_sem]) rfl ⟨?_, rfl⟩
              rw [← Hst.out]; rfl
            · rw [if_neg hz] at hst
              have Hst := Lib.hid hst
              clear hst hc256
              by_cases hc0 : s[k].toNat = 0
              · have hk0 : k = 0 := by omega
                subst hk0
                have hz0 : ((s[0].toNat : Int) == 0) = true := by simp; omega
                have hoo := (Ho.out (by omega)).1
                have hwr : IntKind.u64.wrap ((s[0].toNat : Int) % 128 * 2 ^ (7 * 0)) = (s[0].toNat : Int) % 128 := by
                  simp [IntKind.wrap, IntKind.bits, IntKind.signed]; omega
                rw [hwr] at hoo
                have Hoo := Lib.hid hoo
                have hdz : ¬ (s = ByteArray.empty) := fun h => by subst h; exact absurd hlt (by decide)
                clear hc0 hc hz hne9 h9 hwr hoo
                go_wp2_with fail
                rw [Hoo.out]
                refine (refUnfold_any _ w (Ho.out (by omega)).2.1).mono ?_
                rintro e w' ⟨rfl, rfl⟩
                go_wp2_with fail
                refine bodyPost_ret (v := .tuple #[.int .i64 (unfI (g + s[0].toNat % 128 * 128 ^ 0)), .int .i64 1, .int .i64 0]) (by simp [results, Try.results29, go_sem]) rfl ⟨?_, rfl⟩
                rw [← Hst.out]; rfl
              · have hz0 : ((s[k].toNat : Int) == 0) = false := by simp; omega
                clear hc hz
                go_wp2_with fail
                rw [(Ho.out (by omega)).1]
                refine (refUnfold_any _ w (Ho.out (by omega)).2.1).mono ?_
                rintro e w' ⟨rfl, rfl⟩
                go_wp2_with fail
                refine bodyPost_ret (v := .tuple #[.int .i64 (unfI (g + s[k].toNat % 128 * 128 ^ k)), .int .i64 ((k + 1 : Nat) : Int), .int .i64 0]) (by simp [results, Try.results29, go_sem]) rfl ⟨?_, rfl⟩
                rw [← Hst.out]; rfl
      · have hks' : k = s.size := by omega
        subst hks'
        have hst := Hn.out
        rw [h10', numR, getElem?_bytes_none s _ (Nat.le_refl _)] at hst
        simp only [] at hst
        have Hst := Lib.hid hst
        clear hst
        go_wp2_with fail
        refine bodyPost_ret (v := .tuple #[.int .i64 0, .int .i64 0, .int .i64 3]) (by simp [results, Try.results29, go_sem]) rfl ⟨?_, rfl⟩
        rw [← Hst.out]; rfl
    · have h10' : k = 10 := by omega
      subst h10'
      have hst := Hn.out
      simp only [Nat.sub_self, numR] at hst
      have Hst := Lib.hid hst
      clear hst
      go_wp2_with fail
      refine bodyPost_ret (v := .tuple #[.int .i64 0, .int .i64 0, .int .i64 4]) (by simp [results, Try.results29, go_sem]) rfl ⟨?_, rfl⟩
      rw [← Hst.out]; rfl
end Go.Proofs.Ythigpdalmdmebaa
