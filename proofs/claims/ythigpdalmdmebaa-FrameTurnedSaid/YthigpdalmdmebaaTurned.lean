/- FrameTurned: a frame of which 1 to 32 bits in a row behind its length are turned is refused, for every input. -/
import Derived.Test.YthigpdalmdmebaaBurst
namespace Go.Proofs.Ythigpdalmdmebaa
open Go Go.RowKit

theorem own_store {w : World} {base g n cap : Nat} {ys : List UInt8} (h : w.ownsRow base 5 1 (.slice (some ⟨g, 0, none⟩) n cap) n (ys.map byteV)) (j : Nat) (_ : j < n) (x : UInt8) :
    (w.setCell ⟨g, j, none⟩ (byteV x)).ownsRow base 5 1 (.slice (some ⟨g, 0, none⟩) n cap) n ((ys.set j x).map byteV) := by
  obtain ⟨h1, h2⟩ := h
  rcases h2 with ⟨h2, _⟩ | ⟨g', cap', cur, hv, hg, hh, hn, hm, hs, ht⟩
  · cases h2
  · injection hv with e1 e2 e3
    injection e1 with e1; injection e1 with e1 _ _
    subst e1; subst e3
    refine ⟨by simpa using h1, .inr ⟨g, cap, cur.setIfInBounds j (byteV x), rfl, hg, Blk.set_ hh j _, hn, hm, by simpa using hs, ?_⟩⟩
    rw [Array.toList_setIfInBounds, List.take_set, ht, List.map_set]

theorem bits_pat (p : BitVec 32) (i : Nat) (_ : i < 32) : bits .and .u32 ((p.toNat : Int) / 2 ^ i) 1 = if p.getLsbD i then 1 else 0 := by
  have h1 : ((p.toNat : Int) / 2 ^ i) = (((p >>> i : BitVec 32).toNat : Nat) : Int) := by
    simp [BitVec.toNat_ushiftRight, Nat.shiftRight_eq_div_pow]
  have h2 : (1 : Int) = (((1#32 : BitVec 32).toNat : Nat) : Int) := by decide
  rw [h1, h2, bits_and32]
  have h3 : (p >>> i) &&& 1#32 = if p.getLsbD i then 1#32 else 0#32 := by
    apply BitVec.eq_of_getLsbD_eq
    intro j hj
    rcases Nat.eq_zero_or_pos j with rfl | hp
    · cases h : p.getLsbD i <;> simp [h]
    · cases h : p.getLsbD i <;> simp [BitVec.getLsbD_one] <;> omega
  rw [h3]
  split <;> rfl

theorem flipB_int (y : UInt8) (t : Nat) (ht : t < 8) : bits .xor .u8 (y.toNat : Int) (2 ^ t % 256) = ((flipB y t).toNat : Int) := by
  have e : (2 ^ t % 256 : Int) = (((UInt8.ofNat (2 ^ t)).toNat : Nat) : Int) := by
    rcases (show t = 0 ∨ t = 1 ∨ t = 2 ∨ t = 3 ∨ t = 4 ∨ t = 5 ∨ t = 6 ∨ t = 7 by omega) with rfl | rfl | rfl | rfl | rfl | rfl | rfl | rfl <;> decide
  rw [e, u8_xor]
  rfl
theorem own_frozen {w : World} {base g n cap : Nat} {xs : List Value} (h : w.ownsRow base 5 1 (.slice (some ⟨g, 0, none⟩) n cap) n xs) (j : Nat) : w.frozen? ⟨g, j, none⟩ = false := by
  rcases h.2 with ⟨h2, _⟩ | ⟨g', cap', cur, hv, hg, hh, _⟩
  · cases h2
  · injection hv with e1 _ _
    injection e1 with e1; injection e1 with e1 _ _
    subst e1
    exact Blk.frozen hh j

theorem get_n (b cap n : Nat) (zs : List UInt8) (w : World) (hn : zs.length = n) (hcap : n ≤ cap) (h0 : 0 < cap) (hbig : n ≤ 140737488351232) (hc : RB w (some ⟨b, 0, none⟩) zs) :
    Calls Try.prog 6 #[.slice (some ⟨b, 0, none⟩) n cap, .int .i64 0] w fun e w' => ∃ v, e = .returned (.tuple #[v, .int .i64 ((getN zs 0).2.1 : Int), .int .i64 ((getN zs 0).2.2 : Int)]) ∧
      w'.ownsRow w.heap.size 5 1 v (getN zs 0).1.length ((getN zs 0).1.map byteV) ∧ Below w.heap.size w w' := by
  subst hn
  exact get_any b 0 cap zs 0 w (by omega) hcap h0 hbig hc

set_option maxRecDepth 100000 in
set_option maxHeartbeats 2000000 in
theorem turned_any (X : Option Addr) (cx : Nat) (xs : List UInt8) (at_ : Int) (p : BitVec 32) (w : World) (_ : -9223372036854775808 ≤ at_ ∧ at_ ≤ 9223372036854775807) (hX : RB w X xs) (hx0 : X = none → cx = 0) :
    Calls Try.prog 4 #[.slice X xs.length cx, .int .i64 at_, .int .u32 (p.toNat : Int)] w fun e w' => e = .returned (.bool true) ∧ Below w.heap.size w w' := by
  have HX := Lib.hid hX
  have Hx0 := Lib.hid hx0
  have hp := p.isLt
  clear hX hx0
  by_cases hlen : 100000 < xs.length
  · go_enter Try.func4, Try.ntmps4
    go_wp2_with fail
    refine (lives_any _).mono ?_
    rintro e w5 ⟨rfl, hb5⟩
    have Hb5 := Lib.hid hb5
    clear hb5
    go_wp2_with fail
    go_ret
    exact ⟨rfl, Hb5.out⟩
  by_cases hp0 : p = 0#32
  · subst hp0
    go_enter Try.func4, Try.ntmps4
    go_wp2_with fail
    refine (lives_any _).mono ?_
    rintro e w5 ⟨rfl, hb5⟩
    have Hb5 := Lib.hid hb5
    clear hb5
    go_wp2_with fail
    go_ret
    exact ⟨rfl, Hb5.out⟩
  have hpn : ¬ ((p.toNat : Int) = 0) := by
    intro h
    exact hp0 (BitVec.eq_of_toNat_eq (by simpa using h))
  have Hp0 := Lib.hid hp0
  clear hp0
  have hd1 : decide ((100000 : Int) < (xs.length : Int)) = false := by simp; omega
  have hd2 : ((p.toNat : Int) == 0) = false := by simpa using hpn
  go_enter Try.func4, Try.ntmps4
  go_wp2_with fail
  refine (put_any none X 0 cx [] xs _ (by omega) (by simp) (fun h => by cases h) HX.out (fun _ => rfl) Hx0.out).mono ?_
  rintro e w1 ⟨v1, rfl, hown, hb1⟩
  simp only [List.nil_append] at hown
  obtain ⟨V1, c1, rfl⟩ := own_form hown
  have hfl : (frameF xs).length = (longF xs.length).length + xs.length + 4 := by unfold frameF; simp [le4]; omega
  have hl10 := longF_len xs.length
  have hl1 : 0 < (longF xs.length).length := vint_pos 9 _
  obtain ⟨g1, c1', hV1⟩ := ownsRow_succ (k := (frameF xs).length - 1) (by rw [show (frameF xs).length - 1 + 1 = (frameF xs).length by omega]; exact hown)
  injection hV1 with hV1 _ hc1
  subst hV1
  subst hc1
  have Hown := Lib.hid hown
  have Hb1 := Lib.hid hb1
  have hback := getN_back xs (by omega)
  obtain ⟨n, hn⟩ : ∃ n, n = (frameF xs).length := ⟨_, rfl⟩
  have Hn := Lib.hid hn
  rw [← hn] at hown hfl hback ⊢
  have Hown := Lib.hid hown
  have Hb1 := Lib.hid hb1
  have Hback := Lib.hid hback
  obtain ⟨hl, hhl⟩ : ∃ hl, hl = (longF xs.length).length := ⟨_, rfl⟩
  have Hhl := Lib.hid hhl
  rw [← hhl] at hfl hl10 hl1
  have hd3 : decide ((n : Int) < (xs.length : Int) + 5) = false := by simp; omega
  clear hown hb1 hback hhl hn
  have hlen' : xs.length ≤ 100000 := by omega
  clear hlen
  have hf1 : n ≤ hl + xs.length + 4 := by omega
  have hf2 : hl + xs.length + 4 ≤ n := by omega
  clear hfl
  obtain ⟨k, hk, hk1, hk2⟩ : ∃ k : Nat, wrap64 (8 * ((n : Int) - (xs.length : Int) - 4) + wrap64 ((IntKind.u64.wrap at_).tmod (8 * (n : Int) - 8 * ((n : Int) - (xs.length : Int) - 4)))) = (k : Int) ∧ 8 * hl ≤ k ∧ k < 8 * n := by
    have hu : 0 ≤ IntKind.u64.wrap at_ := by rw [IntKind.wrap_u64]; omega
    generalize IntKind.u64.wrap at_ = u at hu
    have hD : (8 * (n : Int) - 8 * ((n : Int) - (xs.length : Int) - 4)) = ((8 * xs.length + 32 : Nat) : Int) := by omega
    rw [hD]
    obtain ⟨u', rfl⟩ := Int.eq_ofNat_of_zero_le hu
    rw [← Int.ofNat_tmod]
    have hr : u' % (8 * xs.length + 32) < 8 * xs.length + 32 := Nat.mod_lt _ (by omega)
    generalize u' % (8 * xs.length + 32) = r at hr
    refine ⟨8 * hl + r, ?_, by omega, by omega⟩
    simp only [wrap64]
    omega
  go_wp2_with fail
  rw [hk]
  clear hk
  go_loopw [11, 12] (fun tu i wr => ∃ (j : Nat) (ys : List UInt8) (b : Bool), j ≤ 32 ∧ i = .int .i64 j ∧ tu = .bool b ∧ FlipI (frameF xs) hl k j ys b ∧ wr.ownsRow w.heap.size 5 1 (.slice (some ⟨g1, 0, none⟩) n c1) n (ys.map byteV) ∧ Below w.heap.size w wr) (fun _ i _ => 32 - (intOf i).toNat)
  case atStart => exact ⟨0, frameF xs, false, by omega, rfl, rfl, FlipI.start _ _ _, Hown.out, Hb1.out⟩
  case round =>
    obtain ⟨j, ys, b, hj, rfl, rfl, hF, hown, hb⟩ := hrel
    have HF := Lib.hid hF
    have Hown := Lib.hid hown
    have Hb := Lib.hid hb
    clear hF hown hb
    by_cases hlt : j < 32 ∧ k + j < 8 * n
    · obtain ⟨hlt1, hlt2⟩ := hlt
      have hb := bits_pat p j hlt1
      cases hbit : p.getLsbD j with
      | false =>
        rw [hbit] at hb
        simp only [Bool.false_eq_true, if_false] at hb
        go_wp2_with fail
        go_roundw
        case rel => exact ⟨j + 1, ys, b, by omega, by go_num, rfl, HF.out.skip, Hown.out, Hb.out⟩
        case measure => simp [intOf]; omega
      | true =>
        rw [hbit] at hb
        simp only [if_true] at hb
        have hyl : ys.length = n := by rw [HF.out.1, ← Hn.out]
        have hq : (k + j) / 8 < ys.length := by omega
        have hq' : (k + j) / 8 < n := by omega
        have hcell : wr.cell? ⟨g1, (k + j) / 8, none⟩ = some (.int .u8 (ys[(k + j) / 8].toNat : Int)) := by
          have := Hown.out.cells (g := g1) rfl ((k + j) / 8) (byteV ys[(k + j) / 8]) (by simp [List.getElem?_eq_getElem hq])
          rw [add_form] at this
          simpa [byteV] using this
        have hfr : wr.frozen? ⟨g1, (k + j) / 8, none⟩ = false := own_frozen Hown.out _
        have hfb := flipB_int ys[(k + j) / 8] ((k + j) % 8) (by omega)
        have hg1 : w.heap.size ≤ g1 := (Hown.out.lt g1 rfl).1
        go_wp2_with fail
        go_roundw
        case rel =>
          refine ⟨j + 1, ys.set ((k + j) / 8) (flipB ys[(k + j) / 8] ((k + j) % 8)), true, by omega, by go_num, rfl, HF.out.flip hlt1 hk1 ?_ hq, ?_, ?_⟩
          · rw [← Hn.out]; exact hlt2
          · exact own_store Hown.out _ hq' _
          · exact Hb.out.setCell hg1 _
        case measure => simp [intOf]; omega
    · have hyl : ys.length = n := by rw [HF.out.1, ← Hn.out]
      have hcap : n ≤ c1 := by
        rcases Hown.out.2 with ⟨h2, _⟩ | ⟨g', cap', cur, hv, hg, hh, hnn, _⟩
        · cases h2
        · injection hv with _ _ e3
          omega
      have hrb : RB wr (some ⟨g1, 0, none⟩) ys := RB.of_own (base := w.heap.size) (c := c1) (by rw [hyl]; exact Hown.out)
      have Hrb := Lib.hid hrb
      have hg1 : w.heap.size ≤ g1 := (Hown.out.lt g1 rfl).1
      clear hrb
      cases b with
      | true =>
        have hget : getN ys 0 = ([], 0, 4) := by
          have := HF.out
          rw [Hhl.out] at this
          exact getN_turned xs ys k j (by omega) this
        have Hget := Lib.hid hget
        clear hget
        go_wp2_with fail
        all_goals
          refine (get_n g1 c1 n ys wr hyl hcap (by omega) (by omega) Hrb.out).mono ?_
          rintro e w2 ⟨v2, rfl, hown2, hb2⟩
          rw [Hget.out] at hown2 ⊢
          obtain ⟨V2, c2, rfl⟩ := own_form hown2
          have Hown2 := Lib.hid hown2
          have Hb2 := Lib.hid hb2
          clear hown2 hb2
          go_wp2_with fail
          refine (lives_any _).mono ?_
          rintro e w5 ⟨rfl, hb5⟩
          have Hb5 := Lib.hid hb5
          clear hb5
          go_wp2_with fail
          go_ret
          exact ⟨rfl, Hb.out.trans ((Hb2.out.mono Hb.out.size).trans (Hb5.out.mono (Nat.le_trans Hb.out.size Hb2.out.size)))⟩
      | false =>
        have hys : ys = frameF xs := HF.out.2.2.2 rfl
        have hget : getN ys 0 = (xs, n, 0) := by rw [hys]; exact Hback.out
        have Hget := Lib.hid hget
        clear hget hys
        go_wp2_with fail
        all_goals
          refine (get_n g1 c1 n ys wr hyl hcap (by omega) (by omega) Hrb.out).mono ?_
          rintro e w2 ⟨v2, rfl, hown2, hb2⟩
          rw [Hget.out] at hown2 ⊢
          obtain ⟨V2, c2, rfl⟩ := own_form hown2
          have hbb : Below w.heap.size w w2 := Hb.out.trans (hb2.mono Hb.out.size)
          have hr1 : RB w2 X xs := HX.out.below hbb
          have hr2 : RB w2 V2 xs := RB.of_own (base := wr.heap.size) (c := c2) hown2
          have Hbb := Lib.hid hbb
          have Hr1 := Lib.hid hr1
          have Hr2 := Lib.hid hr2
          clear hown2 hb2 hbb hr1 hr2
          have hcv1 := conv_bytes w2 V2 c2 xs Hr2.out
          have hcv2 := conv_bytes w2 X cx xs Hr1.out
          generalize (⟨xs.toArray⟩ : ByteArray) = s at hcv1 hcv2
          go_wp2_with fail
          refine (lives_any _).mono ?_
          rintro e w5 ⟨rfl, hb5⟩
          have Hb5 := Lib.hid hb5
          clear hb5 hcv1 hcv2
          go_wp2_with fail
          go_ret
          exact ⟨rfl, Hbb.out.trans (Hb5.out.mono Hbb.out.size)⟩
end Go.Proofs.Ythigpdalmdmebaa
