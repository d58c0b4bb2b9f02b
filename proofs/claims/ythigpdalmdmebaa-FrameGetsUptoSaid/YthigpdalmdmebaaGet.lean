/- frame.Get answers what is in the frame at a place, and the place behind it, or why there is none. -/
import Derived.Test.YthigpdalmdmebaaRead
import Derived.Deep.RegionHeld3
namespace Go.Proofs.Ythigpdalmdmebaa
open Go Go.RowKit

/-- what is got: the bytes, the place behind, what went wrong -/
def getN (l : List UInt8) (k : Nat) : List UInt8 × Nat × Nat :=
  if (cntF ((l.drop k).take 11) 1048576).2.2 ≠ 0 then ([], 0, (cntF ((l.drop k).take 11) 1048576).2.2)
  else if l.length - (k + (cntF ((l.drop k).take 11) 1048576).2.1) < (cntF ((l.drop k).take 11) 1048576).1 + 4 then ([], 0, 3)
  else if (l.drop (k + (cntF ((l.drop k).take 11) 1048576).2.1 + (cntF ((l.drop k).take 11) 1048576).1)).take 4
      ≠ le4 (moreF 0#32 ((l.drop k).take ((cntF ((l.drop k).take 11) 1048576).2.1 + (cntF ((l.drop k).take 11) 1048576).1))) then ([], 0, 4)
  else ((l.drop (k + (cntF ((l.drop k).take 11) 1048576).2.1)).take (cntF ((l.drop k).take 11) 1048576).1,
    k + (cntF ((l.drop k).take 11) 1048576).2.1 + (cntF ((l.drop k).take 11) 1048576).1 + 4, 0)
def getF (l : List UInt8) (at_ : Int) : List UInt8 × Nat × Nat :=
  if at_ < 0 ∨ (l.length : Int) < at_ then ([], 0, 2) else getN l at_.toNat

/-- where a cut begins -/
def cutA (A : Option Addr) (cap l : Nat) : Option Addr := if cap = l then A else A.map (·.add l)
theorem run_cut (A : Option Addr) (n cap l h : Nat) (w : World) (h1 : l ≤ h) (h2 : h ≤ cap) :
    (Instr.sliceAt 22 (.slice A n cap) (some (.int .i64 (l : Int))) (some (.int .i64 (h : Int))) none).run Try.prog w = .ok (.slice (cutA A cap l) (h - l) (cap - l)) w := by
  obtain ⟨i0, hi, hz0, hz1, hz2⟩ := info_parts Try.info5
  simp [cutA, Instr.sliceAt, Instr.slice, run_underlying Try.underlying22, Instr.sliceBounds, Instr.sliceBound, asIntOf, sizeOf, typeInfo, hi, hz1, h1, h2]
theorem eqG51 : Try.prog.eqGuardType Try.prog.depth 51 = false := by kernel_rfl
theorem und51 : Try.prog.underlying 51 = some (.array 4 5) := by kernel_rfl
theorem bne_byte (a b : UInt8) : ((a.toNat : Int) == (b.toNat : Int)) = decide (a = b) := by
  by_cases h : a = b
  · subst h; simp
  · have : a.toNat ≠ b.toNat := fun e => h (UInt8.toNat_inj.1 e)
    simp [h]; omega
theorem eq51d (d : Nat) (w : World) (a0 a1 a2 a3 b0 b1 b2 b3 : UInt8) :
    (Op.equalIn (d + 1 + 1) 51 (.agg #[.int .u8 (a0.toNat : Int), .int .u8 (a1.toNat : Int), .int .u8 (a2.toNat : Int), .int .u8 (a3.toNat : Int)]) (.agg #[.int .u8 (b0.toNat : Int), .int .u8 (b1.toNat : Int), .int .u8 (b2.toNat : Int), .int .u8 (b3.toNat : Int)])).run Try.prog w
      = .ok (decide ([a0, a1, a2, a3] = [b0, b1, b2, b3])) w := by
  obtain ⟨i0, hi, hz0, hz1, hz2⟩ := info_parts Try.info5
  have he : ∀ (a b : UInt8) (w : World), (Op.equalIn (d + 1) 5 (.int .u8 (a.toNat : Int)) (.int .u8 (b.toNat : Int))).run Try.prog w = .ok (decide (a = b)) w := fun a b w => by
    rw [run_equalIn_int w d 5 .u8 .u8 _ _ Try.underlying5, bne_byte]
  rw [Op.equalIn]
  simp only [Sem.run_bind, run_underlying und51, Result.andThen_ok, sizeOf, typeInfo]
  simp [hi, hz1, part, isAgg, List.range', run_underlying Try.underlying5, he]
  repeat' (split <;> try simp_all)
theorem RB.cut {w : World} {A : Option Addr} {zs : List UInt8} (hr : RB w A zs) (cap l n : Nat) (hc : zs.length ≤ cap) : RB w (cutA A cap l) ((zs.drop l).take n) := by
  intro h0
  have hl : l < zs.length := by
    simp only [List.length_take, List.length_drop] at h0; omega
  obtain ⟨b, off, rfl, hb, hcell⟩ := hr (by omega)
  refine ⟨b, off + l, by simp [cutA, show ¬ (cap = l) by omega, add_form], hb, fun j hj => ?_⟩
  have hj' : l + j < zs.length := by simp only [List.length_take, List.length_drop] at hj; omega
  rw [Nat.add_assoc, hcell (l + j) hj']
  simp

theorem get_arg (A : Option Addr) (cap : Nat) (zs : List UInt8) (at_ : Int) (w : World) (h : at_ < 0 ∨ (zs.length : Int) < at_) :
    Calls Try.prog 6 #[.slice A zs.length cap, .int .i64 at_] w fun e w' => e = .returned (.tuple #[.slice none 0 0, .int .i64 0, .int .i64 2]) ∧ w = w' := by
  rcases Int.lt_or_le at_ 0 with h0 | h0
  · have hd : decide (at_ < 0) = true := by simpa using h0
    go_enter Try.func6, Try.ntmps6
    go_wp2_with fail
    go_ret3
    exact ⟨rfl, rfl⟩
  · have hd : (zs.length : Int) < at_ := by omega
    clear h
    go_enter Try.func6, Try.ntmps6
    go_wp2_with fail
    go_ret3
    exact ⟨rfl, rfl⟩

def lb0 (c : BitVec 32) : UInt8 := UInt8.ofNat (c.toNat % 256)
def lb1 (c : BitVec 32) : UInt8 := UInt8.ofNat (c.toNat / 256 % 256)
def lb2 (c : BitVec 32) : UInt8 := UInt8.ofNat (c.toNat / 65536 % 256)
def lb3 (c : BitVec 32) : UInt8 := UInt8.ofNat (c.toNat / 16777216)
theorem low_any4 (c : BitVec 32) (w : World) :
    Calls Try.prog 19 #[.int .u32 (c.toNat : Int)] w fun e w' => e = .returned (.agg #[.int .u8 ((lb0 c).toNat : Int), .int .u8 ((lb1 c).toNat : Int), .int .u8 ((lb2 c).toNat : Int), .int .u8 ((lb3 c).toNat : Int)]) ∧ Below w.heap.size w w' :=
  (low_any c w).mono fun e w' ⟨h1, h2⟩ => ⟨by
    rw [h1]
    have := c.isLt
    simp only [lowV, lb0, lb1, lb2, lb3]
    simp
    omega, h2⟩
def eqB (a0 a1 a2 a3 b0 b1 b2 b3 : UInt8) : Bool := decide ([a0, a1, a2, a3] = [b0, b1, b2, b3])
theorem eqB_run (d : Nat) (w : World) (a0 a1 a2 a3 b0 b1 b2 b3 : UInt8) :
    (Op.equalIn (d + 1 + 1) 51 (.agg #[.int .u8 (a0.toNat : Int), .int .u8 (a1.toNat : Int), .int .u8 (a2.toNat : Int), .int .u8 (a3.toNat : Int)]) (.agg #[.int .u8 (b0.toNat : Int), .int .u8 (b1.toNat : Int), .int .u8 (b2.toNat : Int), .int .u8 (b3.toNat : Int)])).run Try.prog w
      = .ok (eqB a0 a1 a2 a3 b0 b1 b2 b3) w := eq51d d w a0 a1 a2 a3 b0 b1 b2 b3
theorem eqB_true {a0 a1 a2 a3 b0 b1 b2 b3 : UInt8} (h : (!eqB a0 a1 a2 a3 b0 b1 b2 b3) = false) : ¬ ([a0, a1, a2, a3] ≠ [b0, b1, b2, b3]) := by
  simpa [eqB] using h
theorem eqB_false {a0 a1 a2 a3 b0 b1 b2 b3 : UInt8} (h : (!eqB a0 a1 a2 a3 b0 b1 b2 b3) = true) : [a0, a1, a2, a3] ≠ [b0, b1, b2, b3] := by
  intro e
  have h1 : eqB a0 a1 a2 a3 b0 b1 b2 b3 = true := decide_eq_true e
  rw [h1] at h
  cases h
theorem clone_n (ad : Addr) (cap n : Nat) (zs : List UInt8) (w : World) (hn : zs.length = n) (hbig : n ≤ 140737488351232) (hc : RB w (some ad) zs) :
    Calls Try.prog 20 #[.slice (some ad) n cap] w fun e w' => ∃ v, e = .returned v ∧ w'.ownsRow w.heap.size 5 1 v zs.length (zs.map byteV) ∧ Below w.heap.size w w' ∧ v ≠ .slice none 0 0 := by
  subst hn
  exact clone_any ad cap zs w hbig hc
theorem take4 (zs : List UInt8) (p : Nat) (h : p + 4 ≤ zs.length) : (zs.drop p).take 4 = [zs[p], zs[p + 1], zs[p + 2], zs[p + 3]] := by
  apply List.ext_getElem
  · simp; omega
  · intro i h1 h2
    have : i < 4 := by simpa using h2
    rcases (show i = 0 ∨ i = 1 ∨ i = 2 ∨ i = 3 by omega) with rfl | rfl | rfl | rfl <;> simp
theorem get_none (A : Option Addr) (zs : List UInt8) (w : World) (hbig : zs.length ≤ 140737488351232) :
    Calls Try.prog 6 #[.slice A zs.length zs.length, .int .i64 (zs.length : Int)] w fun e w' => e = .returned (.tuple #[.slice none 0 0, .int .i64 0, .int .i64 3]) ∧ Below w.heap.size w w' := by
  have h11 : ¬ (zs.length + 11 < zs.length) := by omega
  go_enter Try.func6, Try.ntmps6
  go_wp2_with fail
  refine (newReader_any A 0 [] w (fun h => by cases h)).mono ?_
  rintro e w1 ⟨rfl, hw1⟩
  have hb1 : Blk w1 w.heap.size 63 (RdV ⟨([] : List UInt8).toArray⟩ 0 0) := by rw [hw1]; exact heap_alloc_new w _
  have hbe1 : Below w.heap.size w w1 := by rw [hw1]; exact (Below.refl _ _).alloc (Nat.le_refl _) _
  have Hb1 := Lib.hid hb1
  have Hbe1 := Lib.hid hbe1
  clear hw1 hb1 hbe1
  go_wp2_with fail
  refine (countR_any w.heap.size ⟨([] : List UInt8).toArray⟩ 1048576 w1 (by omega) Hb1.out).mono ?_
  rintro e w2 ⟨rfl, hb2, hg2⟩
  have hC : cntF (ByteArray.mk ([] : List UInt8).toArray).data.toList 1048576 = (0, 0, 3) := by decide +kernel
  rw [hC] at hb2 ⊢
  clear hC
  have Hb2 := Lib.hid hb2
  have Hg2 := Lib.hid hg2
  clear hb2 hg2
  go_wp2_with fail
  refine (err_any w.heap.size _ 0 3 w2 Hb2.out).mono ?_
  rintro e w' ⟨rfl, rfl⟩
  go_wp2_with fail
  go_ret3
  exact ⟨rfl, Hbe1.out.grown Hg2.out Hbe1.out.size (fun k hk => by cases hk; exact Nat.le_refl _)⟩

set_option maxRecDepth 100000 in
set_option maxHeartbeats 4000000 in
theorem get_any (b off : Nat) (cap : Nat) (zs : List UInt8) (k : Nat) (w : World) (hk : k ≤ zs.length) (hcap : zs.length ≤ cap) (hkc : k < cap) (hbig : zs.length ≤ 140737488351232) (hc : RB w (some ⟨b, off, none⟩) zs) :
    Calls Try.prog 6 #[.slice (some ⟨b, off, none⟩) zs.length cap, .int .i64 (k : Int)] w fun e w' => ∃ v, e = .returned (.tuple #[v, .int .i64 ((getN zs k).2.1 : Int), .int .i64 ((getN zs k).2.2 : Int)]) ∧
      w'.ownsRow w.heap.size 5 1 v (getN zs k).1.length ((getN zs k).1.map byteV) ∧ Below w.heap.size w w' := by
  have hne : ¬ (cap = k) := by omega
  have hys := RB.cut hc cap k 11 hcap
  rw [show cutA (some ⟨b, off, none⟩) cap k = some ⟨b, off + k, none⟩ by simp [cutA, hne, add_form]] at hys
  obtain ⟨ys, hy⟩ : ∃ ys, ys = (zs.drop k).take 11 := ⟨_, rfl⟩
  rw [← hy] at hys
  have hyl : ys.length = min 11 (zs.length - k) := by rw [hy]; simp
  have hgN : getN zs k = getN zs k := rfl
  conv at hgN => rhs; unfold getN
  rw [← hy] at hgN
  have HgN := Lib.hid hgN
  have Hy := Lib.hid hy
  have Hyl := Lib.hid hyl
  have Hys := Lib.hid hys
  have Hc := Lib.hid hc
  clear hc hy hyl hys hgN
  by_cases hmn : k + 11 < zs.length
  · go_enter Try.func6, Try.ntmps6
    go_wp2_with fail
    rw [show 11 = ys.length by have := Hyl.out; omega]
    refine (newReader_any _ _ ys w Hys.out).mono ?_
    rintro e w1 ⟨rfl, hw1⟩
    have hb1 : Blk w1 w.heap.size 63 (RdV ⟨ys.toArray⟩ 0 0) := by rw [hw1]; exact heap_alloc_new w _
    have hbe1 : Below w.heap.size w w1 := by rw [hw1]; exact (Below.refl _ _).alloc (Nat.le_refl _) _
    have Hb1 := Lib.hid hb1
    have Hbe1 := Lib.hid hbe1
    clear hw1 hb1 hbe1
    go_wp2_with fail
    refine (countR_any w.heap.size ⟨ys.toArray⟩ 1048576 w1 (by omega) Hb1.out).mono ?_
    rintro e w2 ⟨rfl, hb2, hg2⟩
    rw [show (ByteArray.mk ys.toArray).data.toList = ys from rfl] at hb2 ⊢
    have hbe2 : Below w.heap.size w w2 := Hbe1.out.grown hg2 Hbe1.out.size (fun k hk => by cases hk; exact Nat.le_refl _)
    obtain ⟨⟨n, u, er⟩, hC⟩ : ∃ C, cntF ys 1048576 = C := ⟨_, rfl⟩
    have hu := cntF_fits ys 1048576
    have hn := cntF_pos (l := ys) (most := 1048576)
    have hgn := HgN.out
    rw [hC] at hb2 hu hn hgn ⊢
    simp only [] at hb2 hu hn hgn ⊢
    have HC := Lib.hid hC
    have Hb2 := Lib.hid hb2
    have Hbe2 := Lib.hid hbe2
    have Hu := Lib.hid hu
    have Hn := Lib.hid hn
    clear hb2 hg2 hbe2 hC hu hn
    go_wp2_with fail
    refine (err_any w.heap.size _ u er w2 Hb2.out).mono ?_
    rintro e w' ⟨rfl, rfl⟩
    by_cases he : er = 0
    · subst he
      rw [if_neg (by simp)] at hgn
      have hu := Hu.out rfl
      have hn := Hn.out rfl
      have hyl := Hyl.out
      have hu2 : k + u ≤ zs.length := by omega
      clear hyl
      go_wp2_with fail
      refine (at_any w.heap.size _ u 0 w2 Hb2.out).mono ?_
      rintro e w' ⟨rfl, rfl⟩
      by_cases hs : zs.length - (k + u) < n + 4
      · rw [if_pos hs] at hgn
        have hs' : (zs.length : Int) - ((k : Int) + u) < n + 4 := by omega
        have Hgn := Lib.hid hgn
        clear hgn
        go_wp2_with fail
        all_goals go_ret3
        all_goals refine ⟨_, by rw [Hgn.out]; rfl, by rw [Hgn.out]; exact World.ownsRow_nil _ _ _ _, Hbe2.out⟩
      · rw [if_neg hs] at hgn
        have hs' : ¬ ((zs.length : Int) - ((k : Int) + u) < n + 4) := by omega
        have Hgn := Lib.hid hgn
        clear hgn
        go_wp2_with fail
        have hA := Hc.out.below Hbe2.out
        obtain ⟨b', off', hbe, hblt, hcell⟩ := hA (by omega)
        injection hbe with hbe; injection hbe with e1 e2 _
        subst e1; subst e2
        have hfour : ∃ x0 x1 x2 x3, (zs.drop (k + u + n)).take 4 = [x0, x1, x2, x3] ∧ w2.cell? ⟨b, off + (k + u + n), none⟩ = some (.int .u8 (x0.toNat : Int)) ∧ w2.cell? ⟨b, off + (k + u + n) + 1, none⟩ = some (.int .u8 (x1.toNat : Int)) ∧
            w2.cell? ⟨b, off + (k + u + n) + 2, none⟩ = some (.int .u8 (x2.toNat : Int)) ∧ w2.cell? ⟨b, off + (k + u + n) + 3, none⟩ = some (.int .u8 (x3.toNat : Int)) :=
          ⟨_, _, _, _, take4 zs (k + u + n) (by omega), hcell (k + u + n) (by omega), hcell (k + u + n + 1) (by omega), hcell (k + u + n + 2) (by omega), hcell (k + u + n + 3) (by omega)⟩
        obtain ⟨x0, x1, x2, x3, h4, hc0, hc1, hc2, hc3⟩ := hfour
        have H4 := Lib.hid h4
        have Hcell := Lib.hid hcell
        have hs2 : k + u + n + 4 ≤ zs.length := by omega
        clear hcell hs hs' h4
        rw [show ((k : Int) + (u : Int)) = ((k + u : Nat) : Int) by omega]
        generalize hP : k + u = p at *
        have HP := Lib.hid hP
        clear hP
        have f1 : IntKind.i64.wrap ((p : Int) + (n : Int)) = (p : Int) + (n : Int) := IntWalk.i64_in _ (by omega)
        have f2 : IntKind.i64.wrap ((p : Int) + (n : Int) + 4) = (p : Int) + (n : Int) + 4 := IntWalk.i64_in _ (by omega)
        have f3 : ((p : Int) + (n : Int)).toNat = p + n := by omega
        have f4 : ((p : Int) + (n : Int) + 4).toNat = p + n + 4 := by omega
        have f5 : (0 : Int) ≤ (p : Int) + (n : Int) := by omega
        have f6 : (0 : Int) ≤ (p : Int) + (n : Int) + 4 := by omega
        have f7 : (p : Int) + (n : Int) + 4 ≤ (cap : Int) := by omega
        have f8 : (p : Int) + (n : Int) ≤ (cap : Int) := by omega
        have f9 : (k : Int) ≤ (p : Int) + (n : Int) := by have := HP.out; omega
        have f10 : ¬ (cap = p + n) := by omega
        obtain ⟨qs, hq⟩ : ∃ qs, qs = (zs.drop k).take (u + n) := ⟨_, rfl⟩
        have hpk : p = k + u := HP.out.symm
        have hql : p + n - k = qs.length := by rw [hq, hpk]; simp; omega
        have hqr : RB w2 (some ⟨b, off + k, none⟩) qs := by
          have := (Hc.out.below Hbe2.out).cut cap k (u + n) hcap
          rw [show cutA (some ⟨b, off, none⟩) cap k = some ⟨b, off + k, none⟩ by simp [cutA, hne, add_form], ← hq] at this
          exact this
        have hrp : RB w2 (some ⟨b, off + p, none⟩) ((zs.drop p).take n) := by
          have := (Hc.out.below Hbe2.out).cut cap p n hcap
          rw [show cutA (some ⟨b, off, none⟩) cap p = some ⟨b, off + p, none⟩ by simp [cutA, show ¬ (cap = p) by omega, add_form]] at this
          exact this
        have Hrp := Lib.hid hrp
        clear hrp
        have hqb : qs.length ≤ zs.length := by rw [hq]; simp; omega
        have Hq := Lib.hid hq
        have Hql := Lib.hid hql
        have Hqr := Lib.hid hqr
        clear hq hql hqr hpk
        have hG := eqG51
        have hE := eqB_run 9998
        have hAr : ∀ (a : Option Addr) (c : Nat) (w : World), (Instr.arrayAt 51 (.slice a 4 c)).run Try.prog w = .ok (.pointer a) w := fun a c w => run_arrayAt w 51 5 4 a 4 c und51 (Nat.le_refl _)
        have f11 : (p : Int) + (n : Int) ≤ (p : Int) + (n : Int) + 4 := by omega
        obtain ⟨sm, hsm⟩ : ∃ c, c = moreF 0#32 qs := ⟨_, rfl⟩
        have hle : le4 (moreF 0#32 qs) = [lb0 (moreF 0#32 qs), lb1 (moreF 0#32 qs), lb2 (moreF 0#32 qs), lb3 (moreF 0#32 qs)] := rfl
        have hgn := Hgn.out
        rw [← Hq.out, H4.out, hle, ← hsm] at hgn
        have Hgn2 := Lib.hid hgn
        clear hgn
        have f12 : ¬ (cap = p) := by omega
        have f13 : (p : Int) ≤ (cap : Int) := by omega
        have f14 : p ≤ p + n := by omega
        have f15 : p + n ≤ cap := by omega
        clear hle
        have Hsm := Lib.hid hsm
        clear hsm
        go_region_held3 (fun w' => Below w2.heap.size w2 w' ∧ w'.cell? ⟨b, off + (p + n), none⟩ = some (.int .u8 (x0.toNat : Int)) ∧ w'.cell? ⟨b, off + (p + n) + 1, none⟩ = some (.int .u8 (x1.toNat : Int)) ∧
            w'.cell? ⟨b, off + (p + n) + 2, none⟩ = some (.int .u8 (x2.toNat : Int)) ∧ w'.cell? ⟨b, off + (p + n) + 3, none⟩ = some (.int .u8 (x3.toNat : Int)))
          (first
            | (go_keep; done)
            | (refine ⟨?_, ?_, ?_, ?_, ?_⟩
               · first | assumption | exact (Below.refl _ _).drew | exact Below.drew (by assumption)
               · first | assumption | exact (Below.cell (B := w2.heap.size) (w := w2) (p := ⟨b, off + (p + n), none⟩) (by assumption) hblt).trans (by assumption)
               · first | assumption | exact (Below.cell (B := w2.heap.size) (w := w2) (p := ⟨b, off + (p + n) + 1, none⟩) (by assumption) hblt).trans (by assumption)
               · first | assumption | exact (Below.cell (B := w2.heap.size) (w := w2) (p := ⟨b, off + (p + n) + 2, none⟩) (by assumption) hblt).trans (by assumption)
               · first | assumption | exact (Below.cell (B := w2.heap.size) (w := w2) (p := ⟨b, off + (p + n) + 3, none⟩) (by assumption) hblt).trans (by assumption)))
          (first
            | (go_at_call 14; rw [Hql.out]; refine (sum_any _ _ qs _ (by omega) (by exact Hqr.out)).mono ?_; rintro e w' ⟨rfl, rfl⟩; rw [← Hsm.out])
            | (go_at_call 19; refine (low_any4 _ _).mono ?_; rintro e w3 ⟨rfl, hb3⟩; have hb4 : Below w2.heap.size w2 w3 := (Below.refl _ _).drew.trans hb3; clear hb3))
        all_goals go_wp2_with fail
        all_goals first
          | (go_ret3
             have hgn3 := Hgn2.out
             have hb5 : Below w2.heap.size w2 w3 := by assumption
             rw [if_pos (eqB_false (by assumption))] at hgn3
             exact ⟨_, by rw [hgn3]; rfl, by rw [hgn3]; exact World.ownsRow_nil _ _ _ _, Hbe2.out.trans (hb5.mono Hbe2.out.size)⟩)
          | (have hgn3 := Hgn2.out
             have hb5 : Below w2.heap.size w2 w3 := by assumption
             rw [if_neg (eqB_true (by assumption))] at hgn3
             have Hgn3 := Lib.hid hgn3
             have Hb5 := Lib.hid hb5
             clear hgn3 hb5
             refine (clone_n _ _ n ((zs.drop p).take n) w3 (by simp; omega) (by omega) (by exact (Hrp.out.below Hb5.out))).mono ?_
             rintro e w4 ⟨v, rfl, hown, hb6, _⟩
             have Hown := Lib.hid hown
             have Hb6 := Lib.hid hb6
             clear hown hb6
             go_wp2_with fail
             go_ret3
             refine ⟨v, by rw [Hgn3.out]; simp, by rw [Hgn3.out]; exact own_base Hown.out (Nat.le_trans Hbe2.out.size Hb5.out.size), ?_⟩
             exact (Hbe2.out.trans (Hb5.out.mono Hbe2.out.size)).trans (Hb6.out.mono (Nat.le_trans Hbe2.out.size Hb5.out.size)))
    · have hne0 : ((er : Int) != 0) = true := by simp; omega
      rw [if_pos he] at hgn
      have Hgn := Lib.hid hgn
      clear hgn
      go_wp2_with fail
      go_ret3
      refine ⟨_, by rw [Hgn.out]; rfl, by rw [Hgn.out]; exact World.ownsRow_nil _ _ _ _, Hbe2.out⟩
  · go_enter Try.func6, Try.ntmps6
    go_wp2_with fail
    rw [show zs.length - k = ys.length by have := Hyl.out; omega]
    refine (newReader_any _ _ ys w Hys.out).mono ?_
    rintro e w1 ⟨rfl, hw1⟩
    have hb1 : Blk w1 w.heap.size 63 (RdV ⟨ys.toArray⟩ 0 0) := by rw [hw1]; exact heap_alloc_new w _
    have hbe1 : Below w.heap.size w w1 := by rw [hw1]; exact (Below.refl _ _).alloc (Nat.le_refl _) _
    have Hb1 := Lib.hid hb1
    have Hbe1 := Lib.hid hbe1
    clear hw1 hb1 hbe1
    go_wp2_with fail
    refine (countR_any w.heap.size ⟨ys.toArray⟩ 1048576 w1 (by omega) Hb1.out).mono ?_
    rintro e w2 ⟨rfl, hb2, hg2⟩
    rw [show (ByteArray.mk ys.toArray).data.toList = ys from rfl] at hb2 ⊢
    have hbe2 : Below w.heap.size w w2 := Hbe1.out.grown hg2 Hbe1.out.size (fun k hk => by cases hk; exact Nat.le_refl _)
    obtain ⟨⟨n, u, er⟩, hC⟩ : ∃ C, cntF ys 1048576 = C := ⟨_, rfl⟩
    have hu := cntF_fits ys 1048576
    have hn := cntF_pos (l := ys) (most := 1048576)
    have hgn := HgN.out
    rw [hC] at hb2 hu hn hgn ⊢
    simp only [] at hb2 hu hn hgn ⊢
    have HC := Lib.hid hC
    have Hb2 := Lib.hid hb2
    have Hbe2 := Lib.hid hbe2
    have Hu := Lib.hid hu
    have Hn := Lib.hid hn
    clear hb2 hg2 hbe2 hC hu hn
    go_wp2_with fail
    refine (err_any w.heap.size _ u er w2 Hb2.out).mono ?_
    rintro e w' ⟨rfl, rfl⟩
    by_cases he : er = 0
    · subst he
      rw [if_neg (by simp)] at hgn
      have hu := Hu.out rfl
      have hn := Hn.out rfl
      have hyl := Hyl.out
      have hu2 : k + u ≤ zs.length := by omega
      clear hyl
      go_wp2_with fail
      refine (at_any w.heap.size _ u 0 w2 Hb2.out).mono ?_
      rintro e w' ⟨rfl, rfl⟩
      by_cases hs : zs.length - (k + u) < n + 4
      · rw [if_pos hs] at hgn
        have hs' : (zs.length : Int) - ((k : Int) + u) < n + 4 := by omega
        have Hgn := Lib.hid hgn
        clear hgn
        go_wp2_with fail
        all_goals go_ret3
        all_goals refine ⟨_, by rw [Hgn.out]; rfl, by rw [Hgn.out]; exact World.ownsRow_nil _ _ _ _, Hbe2.out⟩
      · rw [if_neg hs] at hgn
        have hs' : ¬ ((zs.length : Int) - ((k : Int) + u) < n + 4) := by omega
        have Hgn := Lib.hid hgn
        clear hgn
        go_wp2_with fail
        have hA := Hc.out.below Hbe2.out
        obtain ⟨b', off', hbe, hblt, hcell⟩ := hA (by omega)
        injection hbe with hbe; injection hbe with e1 e2 _
        subst e1; subst e2
        have hfour : ∃ x0 x1 x2 x3, (zs.drop (k + u + n)).take 4 = [x0, x1, x2, x3] ∧ w2.cell? ⟨b, off + (k + u + n), none⟩ = some (.int .u8 (x0.toNat : Int)) ∧ w2.cell? ⟨b, off + (k + u + n) + 1, none⟩ = some (.int .u8 (x1.toNat : Int)) ∧
            w2.cell? ⟨b, off + (k + u + n) + 2, none⟩ = some (.int .u8 (x2.toNat : Int)) ∧ w2.cell? ⟨b, off + (k + u + n) + 3, none⟩ = some (.int .u8 (x3.toNat : Int)) :=
          ⟨_, _, _, _, take4 zs (k + u + n) (by omega), hcell (k + u + n) (by omega), hcell (k + u + n + 1) (by omega), hcell (k + u + n + 2) (by omega), hcell (k + u + n + 3) (by omega)⟩
        obtain ⟨x0, x1, x2, x3, h4, hc0, hc1, hc2, hc3⟩ := hfour
        have H4 := Lib.hid h4
        have Hcell := Lib.hid hcell
        have hs2 : k + u + n + 4 ≤ zs.length := by omega
        clear hcell hs hs' h4
        rw [show ((k : Int) + (u : Int)) = ((k + u : Nat) : Int) by omega]
        generalize hP : k + u = p at *
        have HP := Lib.hid hP
        clear hP
        have f1 : IntKind.i64.wrap ((p : Int) + (n : Int)) = (p : Int) + (n : Int) := IntWalk.i64_in _ (by omega)
        have f2 : IntKind.i64.wrap ((p : Int) + (n : Int) + 4) = (p : Int) + (n : Int) + 4 := IntWalk.i64_in _ (by omega)
        have f3 : ((p : Int) + (n : Int)).toNat = p + n := by omega
        have f4 : ((p : Int) + (n : Int) + 4).toNat = p + n + 4 := by omega
        have f5 : (0 : Int) ≤ (p : Int) + (n : Int) := by omega
        have f6 : (0 : Int) ≤ (p : Int) + (n : Int) + 4 := by omega
        have f7 : (p : Int) + (n : Int) + 4 ≤ (cap : Int) := by omega
        have f8 : (p : Int) + (n : Int) ≤ (cap : Int) := by omega
        have f9 : (k : Int) ≤ (p : Int) + (n : Int) := by have := HP.out; omega
        have f10 : ¬ (cap = p + n) := by omega
        obtain ⟨qs, hq⟩ : ∃ qs, qs = (zs.drop k).take (u + n) := ⟨_, rfl⟩
        have hpk : p = k + u := HP.out.symm
        have hql : p + n - k = qs.length := by rw [hq, hpk]; simp; omega
        have hqr : RB w2 (some ⟨b, off + k, none⟩) qs := by
          have := (Hc.out.below Hbe2.out).cut cap k (u + n) hcap
          rw [show cutA (some ⟨b, off, none⟩) cap k = some ⟨b, off + k, none⟩ by simp [cutA, hne, add_form], ← hq] at this
          exact this
        have hrp : RB w2 (some ⟨b, off + p, none⟩) ((zs.drop p).take n) := by
          have := (Hc.out.below Hbe2.out).cut cap p n hcap
          rw [show cutA (some ⟨b, off, none⟩) cap p = some ⟨b, off + p, none⟩ by simp [cutA, show ¬ (cap = p) by omega, add_form]] at this
          exact this
        have Hrp := Lib.hid hrp
        clear hrp
        have hqb : qs.length ≤ zs.length := by rw [hq]; simp; omega
        have Hq := Lib.hid hq
        have Hql := Lib.hid hql
        have Hqr := Lib.hid hqr
        clear hq hql hqr hpk
        have hG := eqG51
        have hE := eqB_run 9998
        have hAr : ∀ (a : Option Addr) (c : Nat) (w : World), (Instr.arrayAt 51 (.slice a 4 c)).run Try.prog w = .ok (.pointer a) w := fun a c w => run_arrayAt w 51 5 4 a 4 c und51 (Nat.le_refl _)
        have f11 : (p : Int) + (n : Int) ≤ (p : Int) + (n : Int) + 4 := by omega
        obtain ⟨sm, hsm⟩ : ∃ c, c = moreF 0#32 qs := ⟨_, rfl⟩
        have hle : le4 (moreF 0#32 qs) = [lb0 (moreF 0#32 qs), lb1 (moreF 0#32 qs), lb2 (moreF 0#32 qs), lb3 (moreF 0#32 qs)] := rfl
        have hgn := Hgn.out
        rw [← Hq.out, H4.out, hle, ← hsm] at hgn
        have Hgn2 := Lib.hid hgn
        clear hgn
        have f12 : ¬ (cap = p) := by omega
        have f13 : (p : Int) ≤ (cap : Int) := by omega
        have f14 : p ≤ p + n := by omega
        have f15 : p + n ≤ cap := by omega
        clear hle
        have Hsm := Lib.hid hsm
        clear hsm
        go_region_held3 (fun w' => Below w2.heap.size w2 w' ∧ w'.cell? ⟨b, off + (p + n), none⟩ = some (.int .u8 (x0.toNat : Int)) ∧ w'.cell? ⟨b, off + (p + n) + 1, none⟩ = some (.int .u8 (x1.toNat : Int)) ∧
            w'.cell? ⟨b, off + (p + n) + 2, none⟩ = some (.int .u8 (x2.toNat : Int)) ∧ w'.cell? ⟨b, off + (p + n) + 3, none⟩ = some (.int .u8 (x3.toNat : Int)))
          (first
            | (go_keep; done)
            | (refine ⟨?_, ?_, ?_, ?_, ?_⟩
               · first | assumption | exact (Below.refl _ _).drew | exact Below.drew (by assumption)
               · first | assumption | exact (Below.cell (B := w2.heap.size) (w := w2) (p := ⟨b, off + (p + n), none⟩) (by assumption) hblt).trans (by assumption)
               · first | assumption | exact (Below.cell (B := w2.heap.size) (w := w2) (p := ⟨b, off + (p + n) + 1, none⟩) (by assumption) hblt).trans (by assumption)
               · first | assumption | exact (Below.cell (B := w2.heap.size) (w := w2) (p := ⟨b, off + (p + n) + 2, none⟩) (by assumption) hblt).trans (by assumption)
               · first | assumption | exact (Below.cell (B := w2.heap.size) (w := w2) (p := ⟨b, off + (p + n) + 3, none⟩) (by assumption) hblt).trans (by assumption)))
          (first
            | (go_at_call 14; rw [Hql.out]; refine (sum_any _ _ qs _ (by omega) (by exact Hqr.out)).mono ?_; rintro e w' ⟨rfl, rfl⟩; rw [← Hsm.out])
            | (go_at_call 19; refine (low_any4 _ _).mono ?_; rintro e w3 ⟨rfl, hb3⟩; have hb4 : Below w2.heap.size w2 w3 := (Below.refl _ _).drew.trans hb3; clear hb3))
        all_goals go_wp2_with fail
        all_goals first
          | (go_ret3
             have hgn3 := Hgn2.out
             have hb5 : Below w2.heap.size w2 w3 := by assumption
             rw [if_pos (eqB_false (by assumption))] at hgn3
             exact ⟨_, by rw [hgn3]; rfl, by rw [hgn3]; exact World.ownsRow_nil _ _ _ _, Hbe2.out.trans (hb5.mono Hbe2.out.size)⟩)
          | (have hgn3 := Hgn2.out
             have hb5 : Below w2.heap.size w2 w3 := by assumption
             rw [if_neg (eqB_true (by assumption))] at hgn3
             have Hgn3 := Lib.hid hgn3
             have Hb5 := Lib.hid hb5
             clear hgn3 hb5
             refine (clone_n _ _ n ((zs.drop p).take n) w3 (by simp; omega) (by omega) (by exact (Hrp.out.below Hb5.out))).mono ?_
             rintro e w4 ⟨v, rfl, hown, hb6, _⟩
             have Hown := Lib.hid hown
             have Hb6 := Lib.hid hb6
             clear hown hb6
             go_wp2_with fail
             go_ret3
             refine ⟨v, by rw [Hgn3.out]; simp, by rw [Hgn3.out]; exact own_base Hown.out (Nat.le_trans Hbe2.out.size Hb5.out.size), ?_⟩
             exact (Hbe2.out.trans (Hb5.out.mono Hbe2.out.size)).trans (Hb6.out.mono (Nat.le_trans Hbe2.out.size Hb5.out.size)))
    · have hne0 : ((er : Int) != 0) = true := by simp; omega
      rw [if_pos he] at hgn
      have Hgn := Lib.hid hgn
      clear hgn
      go_wp2_with fail
      go_ret3
      refine ⟨_, by rw [Hgn.out]; rfl, by rw [Hgn.out]; exact World.ownsRow_nil _ _ _ _, Hbe2.out⟩
end Go.Proofs.Ythigpdalmdmebaa
