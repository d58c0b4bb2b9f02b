/- FrameJoined: the sum goes on, and the sum of three rows' xor is their sums' xor, where the rows' bulk is at most 1048576. -/
import Derived.Test.YthigpdalmdmebaaLives
import Derived.StillTailTactics
namespace Go.Proofs.Ythigpdalmdmebaa
open Go Go.RowKit

theorem regF_append (c : BitVec 32) (a b : List UInt8) : regF c (a ++ b) = regF (regF c a) b := by unfold regF; rw [List.foldl_append]
theorem more_append (a b : List UInt8) : moreF (moreF 0#32 a) b = moreF 0#32 (a ++ b) := by
  unfold moreF
  rw [BitVec.not_not, regF_append]

theorem bitF_lin (a b : BitVec 32) : bitF (a ^^^ b) = bitF a ^^^ bitF b := by
  have h : ∀ c : BitVec 32, bitF c = (c >>> 1) ^^^ (if c.getLsbD 0 then 3988292384#32 else 0#32) := by
    intro c
    unfold bitF
    congr 1
    by_cases hc : c.getLsbD 0
    · have h1 : c &&& 1#32 = 1#32 := by
        apply BitVec.eq_of_getLsbD_eq
        intro i hi
        rcases Nat.eq_zero_or_pos i with rfl | hp
        · simp [hc]
        · simp [BitVec.getLsbD_one]; omega
      rw [h1, if_pos hc]
      decide
    · have h1 : c &&& 1#32 = 0#32 := by
        apply BitVec.eq_of_getLsbD_eq
        intro i hi
        rcases Nat.eq_zero_or_pos i with rfl | hp
        · simpa using hc
        · simp [BitVec.getLsbD_one]; omega
      rw [h1, if_neg hc]
      decide
  rw [h, h, h, BitVec.getLsbD_xor]
  have hs : (a ^^^ b) >>> 1 = (a >>> 1) ^^^ (b >>> 1) := by
    apply BitVec.eq_of_getLsbD_eq; intro i hi; simp
  rw [hs]
  generalize a >>> 1 = x
  generalize b >>> 1 = y
  generalize hp : (3988292384#32 : BitVec 32) = p
  apply BitVec.eq_of_getLsbD_eq
  intro i hi
  cases a.getLsbD 0 <;> cases b.getLsbD 0 <;> simp only [BitVec.getLsbD_xor, Bool.xor_false, Bool.xor_true, Bool.not_false, Bool.not_true, if_true, if_false, Bool.false_eq_true, BitVec.getLsbD_zero] <;>
    cases x.getLsbD i <;> cases y.getLsbD i <;> cases p.getLsbD i <;> rfl
theorem bitsF_lin (n : Nat) (a b : BitVec 32) : bitsF n (a ^^^ b) = bitsF n a ^^^ bitsF n b := by
  induction n with
  | zero => rfl
  | succ n ih => simp only [bitsF]; rw [ih, bitF_lin]

def x3 : List UInt8 → List UInt8 → List UInt8 → List UInt8
  | x :: a, y :: b, z :: c => (x ^^^ y ^^^ z) :: x3 a b c
  | _, _, _ => []
theorem of_xor (x y : UInt8) : BitVec.ofNat 32 (x ^^^ y).toNat = BitVec.ofNat 32 x.toNat ^^^ BitVec.ofNat 32 y.toNat := by
  rw [UInt8.toNat_xor]
  apply BitVec.eq_of_getLsbD_eq
  intro i hi
  simp [hi]
theorem byteF_lin (s t u : BitVec 32) (x y z : UInt8) : byteF (s ^^^ t ^^^ u) (x ^^^ y ^^^ z) = byteF s x ^^^ byteF t y ^^^ byteF u z := by
  unfold byteF
  rw [← bitsF_lin, ← bitsF_lin, of_xor, of_xor]
  congr 1
  generalize BitVec.ofNat 32 x.toNat = x'
  generalize BitVec.ofNat 32 y.toNat = y'
  generalize BitVec.ofNat 32 z.toNat = z'
  apply BitVec.eq_of_getLsbD_eq
  intro i hi
  simp only [BitVec.getLsbD_xor]
  cases s.getLsbD i <;> cases t.getLsbD i <;> cases u.getLsbD i <;> cases x'.getLsbD i <;> cases y'.getLsbD i <;> cases z'.getLsbD i <;> rfl
theorem regF_lin : ∀ (a b c : List UInt8), a.length = b.length → b.length = c.length → ∀ s t u, regF (s ^^^ t ^^^ u) (x3 a b c) = regF s a ^^^ regF t b ^^^ regF u c
  | [], [], [], _, _, s, t, u => rfl
  | x :: a, y :: b, z :: c, h1, h2, s, t, u => by
    simp only [x3, regF, List.foldl_cons]
    rw [byteF_lin]
    exact regF_lin a b c (by simpa using h1) (by simpa using h2) _ _ _
theorem more_lin (a b c : List UInt8) (h1 : a.length = b.length) (h2 : b.length = c.length) : moreF 0#32 (x3 a b c) = moreF 0#32 a ^^^ moreF 0#32 b ^^^ moreF 0#32 c := by
  unfold moreF
  have h := regF_lin a b c h1 h2 (~~~0#32) (~~~0#32) (~~~0#32)
  have e : (~~~0#32 : BitVec 32) ^^^ ~~~0#32 ^^^ ~~~0#32 = ~~~0#32 := by decide
  rw [e] at h
  rw [h]
  generalize regF (~~~0#32) a = x
  generalize regF (~~~0#32) b = y
  generalize regF (~~~0#32) c = z
  apply BitVec.eq_of_getLsbD_eq
  intro i hi
  simp only [BitVec.getLsbD_xor, BitVec.getLsbD_not, hi, decide_true, Bool.true_and]
  cases x.getLsbD i <;> cases y.getLsbD i <;> cases z.getLsbD i <;> rfl
theorem x3_take (a b c : List UInt8) : ∀ k, k < a.length → k < b.length → k < c.length → ∀ (ha : k < a.length) (hb : k < b.length) (hc : k < c.length),
    x3 (a.take (k + 1)) (b.take (k + 1)) (c.take (k + 1)) = x3 (a.take k) (b.take k) (c.take k) ++ [a[k] ^^^ b[k] ^^^ c[k]] := by
  intro k
  induction k generalizing a b c with
  | zero =>
    intro _ _ _ ha hb hc
    match a, b, c, ha, hb, hc with
    | x :: a, y :: b, z :: c, _, _, _ => simp [x3]
  | succ k ih =>
    intro h1 h2 h3 ha hb hc
    match a, b, c, h1, h2, h3, ha, hb, hc with
    | x :: a, y :: b, z :: c, h1, h2, h3, ha, hb, hc =>
      simp only [List.take_succ_cons, x3, List.cons_append, List.getElem_cons_succ]
      rw [ih a b c (by simpa using h1) (by simpa using h2) (by simpa using h3) (by simpa using ha) (by simpa using hb) (by simpa using hc)]
theorem x3_len (a b c : List UInt8) (h1 : a.length = b.length) (h2 : b.length = c.length) : (x3 a b c).length = a.length := by
  induction a generalizing b c with
  | nil => cases b <;> cases c <;> simp_all [x3]
  | cons x a ih =>
    match b, c, h1, h2 with
    | y :: b, z :: c, h1, h2 => simp only [x3, List.length_cons]; rw [ih b c (by simpa using h1) (by simpa using h2)]

theorem u8_xor (x y : UInt8) : bits .xor .u8 (x.toNat : Int) (y.toNat : Int) = ((x ^^^ y).toNat : Int) := by
  have h : ∀ a b : Fin 256, bits .xor .u8 ((a.val : Nat) : Int) ((b.val : Nat) : Int) = ((a.val ^^^ b.val : Nat) : Int) := by
    intro a b
    show IntKind.u8.wrap (((BitVec.ofInt 8 ((a.val : Nat) : Int)) ^^^ (BitVec.ofInt 8 ((b.val : Nat) : Int))).toNat : Int) = _
    have h1 : (BitVec.ofInt 8 ((a.val : Nat) : Int)).toNat = a.val := by simp
    have h2 : (BitVec.ofInt 8 ((b.val : Nat) : Int)).toNat = b.val := by simp
    have h3 : a.val ^^^ b.val < 2 ^ 8 := Nat.xor_lt_two_pow (by omega) (by omega)
    rw [BitVec.toNat_xor, h1, h2, IntKind.wrap_u8]
    omega
  rw [UInt8.toNat_xor]
  exact h ⟨x.toNat, x.toNat_lt⟩ ⟨y.toNat, y.toNat_lt⟩

theorem RB.takeN {w : World} {A : Option Addr} {zs : List UInt8} (h : RB w A zs) (k : Nat) : RB w A (zs.take k) := by
  intro h0
  have hl : 0 < zs.length := by simp only [List.length_take] at h0; omega
  obtain ⟨b, off, rfl, hb, hc⟩ := h hl
  refine ⟨b, off, rfl, hb, fun j hj => ?_⟩
  simp only [List.length_take] at hj
  rw [hc j (by omega)]
  simp
theorem run_head (A : Option Addr) (n cap h : Nat) (w : World) (h2 : h ≤ cap) :
    (Instr.sliceAt 22 (.slice A n cap) none (some (.int .i64 (h : Int))) none).run Try.prog w = .ok (.slice A h cap) w := by
  obtain ⟨i0, hi, hz0, hz1, hz2⟩ := info_parts Try.info5
  have ha : ∀ a : Addr, a.add 0 = a := fun a => by simp [Addr.add]
  simp [Instr.sliceAt, Instr.slice, run_underlying Try.underlying22, Instr.sliceBounds, Instr.sliceBound, asIntOf, sizeOf, typeInfo, hi, h2, ha]
theorem sum_still (A : Option Addr) (cap n : Nat) (zs : List UInt8) (w : World) (hn : zs.length = n) (hbig : n ≤ 9223372036854775807) (hc : RB w A zs) :
    Calls Try.prog 14 #[.slice A n cap] w fun e w' => e = .returned (.int .u32 ((moreF 0#32 zs).toNat : Int)) ∧ w' = w := by
  subst hn
  exact (sum_any A cap zs w hbig hc).mono fun _ _ h => ⟨h.1, h.2.symm⟩
set_option maxRecDepth 100000 in
set_option maxHeartbeats 2000000 in
theorem joined_any (A B C : Option Addr) (ca cb cc : Nat) (xa xb xc : List UInt8) (w : World) (ha : xa.length ≤ 1048576) (hb : xb.length ≤ 1048576) (hc : xc.length ≤ 1048576)
    (hca : xa.length ≤ ca) (hcb : xb.length ≤ cb) (hcc : xc.length ≤ cc) (hA : RB w A xa) (hB : RB w B xb) (hC : RB w C xc) (hA0 : A = none → ca = 0) (hB0 : B = none → cb = 0) :
    Calls Try.prog 5 #[.slice A xa.length ca, .slice B xb.length cb, .slice C xc.length cc] w fun e w' => e = .returned (.bool true) ∧ Below w.heap.size w w' := by
  have HA := Lib.hid hA
  have HB := Lib.hid hB
  have HC := Lib.hid hC
  have HA0 := Lib.hid hA0
  have HB0 := Lib.hid hB0
  clear hA hB hC hA0 hB0
  obtain ⟨i0, hi, hz0, hz1, hz2⟩ := info_parts Try.info5
  have Hmore := Lib.hid (more_append xa xb)
  go_enter Try.func5, Try.ntmps5
  go_wp2_with fail
  refine (sum_any A ca xa w (by omega) HA.out).mono ?_
  rintro e w' ⟨rfl, rfl⟩
  go_wp2_with fail
  refine (more_any _ B cb xb w (by omega) HB.out).mono ?_
  rintro e w' ⟨rfl, rfl⟩
  rw [Hmore.out]
  go_wp2_with fail
  refine (own_any A ca xa w (by omega) HA.out HA0.out).mono ?_
  rintro e w1 ⟨v1, rfl, hown, hb1⟩
  obtain ⟨V1, c1, rfl⟩ := own_form hown
  have Hown := Lib.hid hown
  have Hb1 := Lib.hid hb1
  clear hown hb1
  go_wp2_with (at_builtin; refine wpList_append_rb rfl _ _ rfl w.heap.size _ xa rfl Hown.out B cb xb rfl (HB.out.below Hb1.out) HB0.out (by omega) Hb1.out.size ?_)
  intro v2 w2 hown2 hgrow2 _
  obtain ⟨V2, c2, rfl⟩ := own_form hown2
  have hb2 : Below w.heap.size w w2 := Hb1.out.grown hgrow2 Hb1.out.size (fun k hk => (Hown.out.lt k hk).1)
  have hr2 : RB w2 V2 (xa ++ xb) := RB.of_own (base := w.heap.size) (c := c2) (by rw [List.length_append, List.map_append]; exact hown2)
  have Hr2 := Lib.hid hr2
  have Hb2 := Lib.hid hb2
  clear hown2 hgrow2 hr2 hb2
  have hlab : (xa ++ xb).length ≤ 2097152 := by rw [List.length_append]; omega
  go_wp2_with fail
  rw [← List.length_append]
  refine (sum_any V2 c2 (xa ++ xb) w2 (by omega) Hr2.out).mono ?_
  rintro e w' ⟨rfl, rfl⟩
  have hself : (((moreF 0#32 (xa ++ xb)).toNat : Int) != ((moreF 0#32 (xa ++ xb)).toNat : Int)) = false := by simp
  obtain ⟨n, hn⟩ : ∃ n, n = min xa.length (min xb.length xc.length) := ⟨_, rfl⟩
  have hna : n ≤ xa.length := by omega
  have hnb : n ≤ xb.length := by omega
  have hnc : n ≤ xc.length := by omega
  have hmin : ∀ (ts : Array TypeId) (t : TypeId) (w : World), (Builtin.min_ ts t #[.int .i64 (xa.length : Int), .int .i64 (xb.length : Int), .int .i64 (xc.length : Int)]).run Try.prog w = .ok (.int .i64 (n : Int)) w := fun ts t w => by
    subst hn
    simp only [Builtin.min_]
    simp [Builtin.min2]
    repeat' split
    all_goals omega
  clear hn
  go_wp2_with fail
  go_loopw [8, 9] (fun v i wr => ∃ (k : Nat) (xs : List UInt8), k ≤ n ∧ i = .int .i64 k ∧ xs = x3 (xa.take k) (xb.take k) (xc.take k) ∧ wr.ownsRow w.heap.size 5 1 v k (xs.map byteV) ∧ Below w.heap.size w wr) (fun _ i _ => n - (intOf i).toNat)
  case atStart => exact ⟨0, [], by omega, rfl, by simp [x3], World.ownsRow_nil _ _ _ _, Hb2.out⟩
  case round =>
    obtain ⟨k, xs, hk, rfl, hxs, hown, hb⟩ := hrel
    obtain ⟨V, vc, rfl⟩ := own_form hown
    have Hxs := Lib.hid hxs
    have Hown := Lib.hid hown
    have Hb := Lib.hid hb
    clear hxs hown hb
    by_cases hlt : k < n
    · obtain ⟨ba, oa, rfl, hla, hcA⟩ := HA.out (by omega)
      obtain ⟨bb, ob, rfl, hlb, hcB⟩ := HB.out (by omega)
      obtain ⟨bc, oc, rfl, hlc, hcC⟩ := HC.out (by omega)
      have h1 : wr.cell? ⟨ba, oa + k, none⟩ = some (.int .u8 (xa[k].toNat : Int)) := (Hb.out.cell (p := ⟨ba, oa + k, none⟩) hla).trans (hcA k (by omega))
      have h2 : wr.cell? ⟨bb, ob + k, none⟩ = some (.int .u8 (xb[k].toNat : Int)) := (Hb.out.cell (p := ⟨bb, ob + k, none⟩) hlb).trans (hcB k (by omega))
      have h3 : wr.cell? ⟨bc, oc + k, none⟩ = some (.int .u8 (xc[k].toNat : Int)) := (Hb.out.cell (p := ⟨bc, oc + k, none⟩) hlc).trans (hcC k (by omega))
      have hx1 := u8_xor xa[k] xb[k]
      have hx2 := u8_xor (xa[k] ^^^ xb[k]) xc[k]
      have hbz : byteV (xa[k] ^^^ xb[k] ^^^ xc[k]) = .int .u8 ((xa[k].toNat ^^^ xb[k].toNat ^^^ xc[k].toNat : Nat) : Int) := by
        unfold byteV; rw [UInt8.toNat_xor, UInt8.toNat_xor]
      have Hbz := Lib.hid hbz
      have Hx3 := Lib.hid (x3_take xa xb xc k (by omega) (by omega) (by omega) (by omega) (by omega) (by omega))
      rw [UInt8.toNat_xor] at hx1 hx2
      rw [UInt8.toNat_xor] at hx2
      have hnb : ∀ g, g < w.heap.size → (Value.slice V k vc).ownBlock ≠ some g := fun g hg e => by have := (Hown.out.lt g e).1; omega
      have ag := hnb ba hla
      have ag2 := hnb bb hlb
      have ag3 := hnb bc hlc
      have hwsz : w.heap.size ≤ wr.heap.size := Hb.out.size
      clear hbz hnb
      have hka : k < xa.length := by omega
      have hkb : k < xb.length := by omega
      have hkc : k < xc.length := by omega
      clear hcA hcB hcC
      go_wp2_with fail
      go_region_held3 (fun w' => w'.cell? ⟨ba, oa + k, none⟩ = some (.int .u8 (xa[k].toNat : Int)) ∧ w'.cell? ⟨bb, ob + k, none⟩ = some (.int .u8 (xb[k].toNat : Int)) ∧ w'.cell? ⟨bc, oc + k, none⟩ = some (.int .u8 (xc[k].toNat : Int)))
        (first
          | (go_keep; done)
          | (go_split_ands
             refine ⟨?_, ?_, ?_⟩
             · (rw [hgrow.cell_far _ (by simp; omega) (Ne.symm ag)]; assumption)
             · (rw [hgrow.cell_far _ (by simp; omega) (Ne.symm ag2)]; assumption)
             · (rw [hgrow.cell_far _ (by simp; omega) (Ne.symm ag3)]; assumption)))
        ((refine step_append_lies _ (by rfl) _ _ _ (by rfl) w.heap.size 5 i0 _ 1 1 Try.underlying22 hi hz0 hz1 hz2 rfl (by omega) (.slice V k vc) k (xs.map byteV) (by rfl) ((Hown.out.alloc _).drew)
            ⟨wr.heap.size, 0, none⟩ 1 1 [.int .u8 ((xa[k].toNat ^^^ xb[k].toNat ^^^ xc[k].toNat : Nat) : Int)] (by rfl) (by rfl) (World.news_of_block (cs := #[.int .u8 ((xa[k].toNat ^^^ xb[k].toNat ^^^ xc[k].toNat : Nat) : Int)]) (t := 5) (fr := (0, 0)) (heap_alloc_new wr _)) (by simp [Value.oneCell'])
            (by omega) (by simp only [maxLen]; omega) (by omega) (by simp; have := Hb.out.size; omega) (wr.heap.size + 1) (by simp) ?_; intro gg cap w1 hown1 hgrow hat hlt1))
      all_goals go_wp2_with fail
      all_goals go_roundw
      case rel =>
        refine ⟨k + 1, xs ++ [xa[k] ^^^ xb[k] ^^^ xc[k]], by omega, by go_num, by rw [Hx3.out, ← Hxs.out], by rw [List.map_append, List.map_singleton, Hbz.out]; exact hown1, ?_⟩
        refine Below.grown ?_ hgrow (by simp; omega) (fun k hk => (Hown.out.lt k hk).1)
        first | exact (Hb.out.alloc hwsz _).drew | exact Hb.out.drew.alloc hwsz _
      case measure => simp [intOf]; omega
    · have hk' : k = n := by omega
      subst hk'
      have hxl : (x3 (xa.take k) (xb.take k) (xc.take k)).length = k := by rw [x3_len _ _ _ (by simp; omega) (by simp; omega)]; simp; omega
      have hml := more_lin (xa.take k) (xb.take k) (xc.take k) (by simp; omega) (by simp; omega)
      rw [← Hxs.out] at hxl hml
      have Hml := Lib.hid hml
      have hrx : RB wr V xs := RB.of_own (base := w.heap.size) (c := vc) (by rw [hxl]; exact Hown.out)
      have Hrx := Lib.hid hrx
      have Hxl := Lib.hid hxl
      have hka : k ≤ ca := by omega
      have hkb : k ≤ cb := by omega
      have hkc : k ≤ cc := by omega
      have heq : ((((moreF 0#32 xs).toNat : Nat) : Int) == bits .xor .u32 (bits .xor .u32 (((moreF 0#32 (xa.take k)).toNat : Nat) : Int) (((moreF 0#32 (xb.take k)).toNat : Nat) : Int)) (((moreF 0#32 (xc.take k)).toNat : Nat) : Int)) = true := by
        rw [bits_xor32, bits_xor32, ← hml]; simp
      have hs1 := fun w => run_head A xa.length ca k w hka
      have hs2 := fun w => run_head B xb.length cb k w hkb
      have hs3 := fun w => run_head C xc.length cc k w hkc
      clear hml hrx hxl
      go_wp2_with fail
      refine wp_region_still_tail 18 (by kernel_rfl) (by kernel_rfl) ?_
      simp only [List.take_succ_cons, List.take_zero, List.drop_succ_cons, List.drop_zero]
      repeat still_step
      still_call (sum_still V vc k xs wr.drew Hxl.out (by have := Hxl.out; omega) (by exact Hrx.out))
      repeat still_step
      still_call (sum_still A ca k (xa.take k) wr.drew (by simp; omega) (by omega) (by exact (HA.out.below Hb.out).takeN k))
      repeat still_step
      still_call (sum_still B cb k (xb.take k) wr.drew (by simp; omega) (by omega) (by exact (HB.out.below Hb.out).takeN k))
      repeat still_step
      still_call (sum_still C cc k (xc.take k) wr.drew (by simp; omega) (by omega) (by exact (HC.out.below Hb.out).takeN k))
      repeat still_step
      refine wpStill_nil ?_
      clear heq hs1 hs2 hs3
      go_wp2_with fail
      refine (lives_any _).mono ?_
      rintro e w5 ⟨rfl, hb5⟩
      have Hb5 := Lib.hid hb5
      clear hb5
      go_wp2_with fail
      go_ret
      refine ⟨rfl, ?_⟩
      exact Hb.out.drew.trans (Hb5.out.mono Hb.out.size)
end Go.Proofs.Ythigpdalmdmebaa
