/- FrameGets: from any place of any bytes on a frame is got, or none, for its reason; and all of them from the front on, as the document says: where the bytes' bulk is at most 1048576. -/
import Derived.Test.YthigpdalmdmebaaRefAll
namespace Go.Proofs.Ythigpdalmdmebaa
open Go Go.RowKit

theorem getN_end (zs : List UInt8) : getN zs zs.length = ([], 0, 3) := by
  unfold getN
  have h : (zs.drop zs.length).take 11 = [] := by simp
  rw [h]
  have h2 : cntF [] 1048576 = (0, 0, 3) := by decide
  rw [h2]
  rfl
theorem get_all (A : Option Addr) (cap n : Nat) (zs : List UInt8) (at_ : Int) (w : World) (hn : zs.length = n) (hcap : n ≤ cap) (hbig : n ≤ 1048576) (hc : RB w A zs)
    (hA : A = none → cap = 0) (hA2 : ∀ a, A = some a → ∃ b off, a = ⟨b, off, none⟩) :
    Calls Try.prog 6 #[.slice A n cap, .int .i64 at_] w fun e w' => ∃ v, e = .returned (.tuple #[v, .int .i64 ((getF zs at_).2.1 : Int), .int .i64 ((getF zs at_).2.2 : Int)]) ∧
      w'.ownsRow w.heap.size 5 1 v (getF zs at_).1.length ((getF zs at_).1.map byteV) ∧ Below w.heap.size w w' := by
  subst hn
  by_cases h : at_ < 0 ∨ (zs.length : Int) < at_
  · refine (get_arg A cap zs at_ w h).mono ?_
    rintro e w' ⟨rfl, rfl⟩
    unfold getF
    rw [if_pos h]
    exact ⟨_, rfl, World.ownsRow_nil _ _ _ _, Below.refl _ _⟩
  · obtain ⟨k, rfl⟩ := Int.eq_ofNat_of_zero_le (show 0 ≤ at_ by omega)
    have hg : getF zs (k : Int) = getN zs k := by unfold getF; rw [if_neg h]; rfl
    rw [hg]
    by_cases hk : k < cap
    · cases A with
      | none => have := hA rfl; omega
      | some a =>
        obtain ⟨b, off, rfl⟩ := hA2 a rfl
        exact get_any b off cap zs k w (by omega) hcap hk (by omega) hc
    · have e1 : cap = zs.length := by omega
      have e2 : k = zs.length := by omega
      subst e1
      subst e2
      refine (get_none A zs w (by omega)).mono ?_
      rintro e w' ⟨rfl, hb⟩
      rw [getN_end]
      exact ⟨_, rfl, World.ownsRow_nil _ _ _ _, hb⟩
theorem refGet_all (zs : List UInt8) (at_ : Int) (w : World) (hbig : zs.length ≤ 1048576) : Calls Try.prog 8 #[.string ⟨zs.toArray⟩, .int .i64 at_] w fun e w' =>
    e = .returned (.tuple #[.string ⟨(getF zs at_).1.toArray⟩, .int .i64 ((getF zs at_).2.1 : Int), .int .i64 ((getF zs at_).2.2 : Int)]) ∧ Below w.heap.size w w' := by
  by_cases h : at_ < 0 ∨ (zs.length : Int) < at_
  · refine (refGet_arg zs at_ w h).mono ?_
    rintro e w' ⟨rfl, rfl⟩
    unfold getF
    rw [if_pos h]
    exact ⟨rfl, Below.refl _ _⟩
  · obtain ⟨k, rfl⟩ := Int.eq_ofNat_of_zero_le (show 0 ≤ at_ by omega)
    have hg : getF zs (k : Int) = getN zs k := by unfold getF; rw [if_neg h]; rfl
    rw [hg]
    exact refGet_any zs k w (by omega) (by omega)
theorem own_spot {W : World} {base n cap : Nat} {A : Option Addr} {xs : List Value} (h : W.ownsRow base 5 1 (.slice A n cap) n xs) : (A = none → cap = 0) ∧ (∀ a, A = some a → ∃ b off, a = ⟨b, off, none⟩) ∧ n ≤ cap := by
  rcases h.2 with ⟨h1, h2⟩ | ⟨g, cap', cur, hv, hg, hh, hn, _⟩
  · injection h1 with e1 e2 e3
    subst e1; subst e3; subst e2
    exact ⟨fun _ => rfl, (by intro a h; cases h), Nat.le_refl _⟩
  · injection hv with e1 e2 e3
    subst e1; subst e3
    refine ⟨(by intro h; cases h), ?_, hn⟩
    intro a h
    injection h with h
    exact ⟨g, 0, h.symm⟩
theorem lastN_L (xs : List El) : lastN xs = lastL (xs.map (·.2)) := by
  unfold lastN lastL
  rw [List.getLast?_map]
  cases xs.getLast? <;> rfl

set_option maxRecDepth 100000 in
set_option maxHeartbeats 4000000 in
theorem gets_any (A : Option Addr) (cap : Nat) (zs : List UInt8) (at_ : Int) (w : World) (hlen : zs.length ≤ 1048575) (hc : RB w A zs) (hA : A = none → cap = 0) :
    Calls Try.prog 3 #[.slice A zs.length cap, .int .i64 at_] w fun e w' => e = .returned (.bool true) ∧ Below w.heap.size w w' := by
  have HC := Lib.hid hc
  have HA := Lib.hid hA
  clear hc hA
  go_enter Try.func3, Try.ntmps3
  go_wp2_with fail
  refine (own_any A cap zs w (by omega) HC.out HA.out).mono ?_
  rintro e w1 ⟨v1, rfl, hown1, hb1⟩
  obtain ⟨V1, c1, rfl⟩ := own_form hown1
  obtain ⟨s1, s2, s3⟩ := own_spot hown1
  have hr1 : RB w1 V1 zs := RB.of_own hown1
  have Hs1 := Lib.hid s1
  have Hs2 := Lib.hid s2
  have Hr1 := Lib.hid hr1
  have Hb1 := Lib.hid hb1
  clear hown1 hb1 s1 s2 hr1
  go_wp2_with fail
  refine (get_all V1 c1 _ zs at_ w1 rfl s3 (by omega) Hr1.out Hs1.out Hs2.out).mono ?_
  rintro e w2 ⟨v2, rfl, hown2, hb2⟩
  obtain ⟨V2, c2, rfl⟩ := own_form hown2
  have hr2 : RB w2 V2 (getF zs at_).1 := RB.of_own hown2
  have hbb2 : Below w.heap.size w w2 := Hb1.out.trans (hb2.mono Hb1.out.size)
  have hcv := conv_bytes w2 A cap zs (HC.out.below hbb2)
  have Hr2 := Lib.hid hr2
  have Hb2 := Lib.hid hbb2
  clear hown2 hb2 hbb2 hr2
  go_wp2_with fail
  refine (refGet_all zs at_ w2 (by omega)).mono ?_
  rintro e w3 ⟨rfl, hb3⟩
  generalize getF zs at_ = t at Hr2 ⊢
  obtain ⟨y, ny, ey⟩ := t
  have hbb3 : Below w.heap.size w w3 := Hb2.out.trans (hb3.mono Hb2.out.size)
  have hr3 : RB w3 V2 y := Hr2.out.below hb3
  have Hb3 := Lib.hid hbb3
  have Hr3 := Lib.hid hr3
  have hrA3 := HC.out.below hbb3
  have HrA3 := Lib.hid hrA3
  clear hbb3 hb3 hcv hr3 hrA3
  simp only []
  go_wp2_with fail
  refine (own_any A cap zs w3 (by omega) HrA3.out HA.out).mono ?_
  rintro e w4 ⟨v4, rfl, hown4, hb4⟩
  obtain ⟨V4, c4, rfl⟩ := own_form hown4
  obtain ⟨s4, s5, s6⟩ := own_spot hown4
  have hr4 : RB w4 V4 zs := RB.of_own hown4
  have Hr4 := Lib.hid hr4
  have Hb4 := Lib.hid hb4
  clear hown4 hb4 s4 s5 hr4
  go_wp2_with fail
  refine (all_any V4 c4 zs w4 s6 (by omega) hlen Hr4.out).mono ?_
  rintro e w5 ⟨v5, xs, rfl, hxs, hown5, hel, hb5⟩
  obtain ⟨V5, c5, rfl⟩ := own_form hown5
  have hbb5 : Below w3.heap.size w3 w5 := Hb4.out.trans (hb5.mono Hb4.out.size)
  have hbw5 : Below w.heap.size w w5 := Hb3.out.trans (hbb5.mono Hb3.out.size)
  have hr5 : RB w5 V2 y := Hr3.out.below hbb5
  have Hr5 := Lib.hid hr5
  have Hb5 := Lib.hid hbw5
  have Hown5 := Lib.hid hown5
  have Hel := Lib.hid hel
  have Hxs := Lib.hid hxs
  have hcv := conv_bytes w5 A cap zs (HC.out.below hbw5)
  clear hown5 hel hb5 hbb5 hbw5 hr5 hxs
  go_wp2_with fail
  refine (refAll_any zs w5 (by omega)).mono ?_
  rintro e w6 ⟨v6, rfl, hown6, hb6⟩
  rw [lastN_L, Hxs.out]
  obtain ⟨V6, c6, rfl⟩ := own_form hown6
  rw [← Hxs.out, List.length_map] at hown6 ⊢
  rw [List.map_map] at hown6
  have Hown6 := Lib.hid hown6
  have Hb6 := Lib.hid (Hb5.out.trans (hb6.mono Hb5.out.size))
  have Hb56 := Lib.hid hb6
  have Hr6 := Lib.hid (Hr5.out.below hb6)
  generalize lastL (xs.map (·.2)) = q
  clear hown6 hb6 hcv
  go_wp2_with fail
  go_loopw [15] (fun i wr => ∃ (k : Nat), k ≤ xs.length ∧ i = .int .i64 k ∧ Below w6.heap.size w6 wr) (fun i _ => xs.length - (intOf i).toNat)
  case atStart => exact ⟨0, by omega, rfl, Below.refl _ _⟩
  case round =>
    obtain ⟨k, hk, rfl, hb⟩ := hrel
    have Hb := Lib.hid hb
    clear hb
    by_cases hlt : k < xs.length
    · obtain ⟨g5, c5', hV5⟩ := ownsRow_succ (k := xs.length - 1) (by rw [show xs.length - 1 + 1 = xs.length by omega]; exact Hown5.out)
      injection hV5 with hV5 hle5 hc5
      clear hle5
      subst hV5
      subst hc5
      obtain ⟨g6, c6', hV6⟩ := ownsRow_succ (k := xs.length - 1) (by rw [show xs.length - 1 + 1 = xs.length by omega]; exact Hown6.out)
      injection hV6 with hV6 hle6 hc6
      clear hle6
      subst hV6
      subst hc6
      obtain ⟨⟨xv, xb, xn⟩, hxk⟩ : ∃ x, xs[k]? = some x := ⟨xs[k], List.getElem?_eq_getElem hlt⟩
      have hel := Hel.out _ (List.mem_of_getElem? hxk)
      unfold elE at hel
      simp only [] at hel
      obtain ⟨X, xc, hx⟩ := own_form hel
      subst hx
      have hl5 := (Hown5.out.lt g5 rfl).2
      have hl6 := (Hown6.out.lt g6 rfl).2
      have hb56 := Hb56.out.trans (Hb.out.mono Hb56.out.size)
      have hc5 : wr.cell? ⟨g5, k, none⟩ = some (.slice X xb.length xc) := by
        have h1 := Hown5.out.cells (g := g5) rfl k (.slice X xb.length xc) (by simp [hxk])
        rw [add_form, Nat.zero_add] at h1
        rw [← h1]
        exact hb56.cell hl5
      have hc6 : wr.cell? ⟨g6, k, none⟩ = some (.string ⟨xb.toArray⟩) := by
        have h1 := Hown6.out.cells (g := g6) rfl k (SV xb) (by simp [hxk])
        rw [add_form, Nat.zero_add] at h1
        rw [← show SV xb = .string ⟨xb.toArray⟩ from rfl, ← h1]
        exact Hb.out.cell hl6
      have hrx : RB wr X xb := (RB.of_own hel).below hb56
      have Hrx := Lib.hid hrx
      have hcv : ∀ n, (convert 22 9 (.slice X xb.length xc)).run Try.prog (wr.drewN n) = .ok (.string ⟨xb.toArray⟩) (wr.drewN n) := fun n => conv_bytes (wr.drewN n) X xc xb (by exact Hrx.out)
      have hm5 : xs.length ≤ 9223372036854775807 := by
        rcases Hown5.out.2 with ⟨h1, _⟩ | ⟨g', cap', cur, hv, _, _, hn, hm, _⟩
        · cases h1
        · simp only [maxLen] at hm; omega
      clear hel hb56 hrx hxk hl5 hl6
      have hd : decide ((k : Int) < (xs.length : Int)) = true := by simp; omega
      go_wp2_with fail
      go_quiet (fail)
      go_wp2_with fail
      go_roundw
      case rel => exact ⟨k + 1, by omega, by go_num, Hb.out.trans ⟨rfl, rfl, rfl, Nat.le_refl _, fun _ _ => rfl⟩⟩
      case measure => simp [intOf]; omega
    · have hke : k = xs.length := by omega
      subst hke
      have hcv := conv_bytes wr V2 c2 y (Hr6.out.below Hb.out)
      go_wp2_with fail
      refine (lives_any _).mono ?_
      rintro e w7 ⟨rfl, hb7⟩
      have Hb7 := Lib.hid hb7
      clear hb7
      go_wp2_with fail
      go_ret
      refine ⟨rfl, ?_⟩
      exact (Hb6.out.trans (Hb.out.mono Hb6.out.size)).trans (Hb7.out.mono (Nat.le_trans Hb6.out.size Hb.out.size))
end Go.Proofs.Ythigpdalmdmebaa
