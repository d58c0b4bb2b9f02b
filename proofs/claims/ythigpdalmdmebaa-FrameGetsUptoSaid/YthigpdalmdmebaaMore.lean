/- frame.More and frame.Sum answer the register's sum of the bytes (for any slice of bytes that lies in memory). -/
import Derived.Test.YthigpdalmdmebaaChecked
import Derived.Tactics
import Derived.Tactics2
import Derived.StillTactics
import Derived.LoopTactic
import Derived.Laws.Pointers
import Derived.WalkKit
import Derived.Handy
import Derived.IntWalk
import Derived.Lib.Hide
namespace Go.Proofs.Ythigpdalmdmebaa
open Go Go.RowKit

/-! the register -/
def bitF (c : BitVec 32) : BitVec 32 := (c >>> 1) ^^^ ((0#32 - (c &&& 1#32)) &&& 3988292384#32)
def bitsF : Nat → BitVec 32 → BitVec 32
  | 0, c => c
  | n + 1, c => bitF (bitsF n c)
def byteF (c : BitVec 32) (x : UInt8) : BitVec 32 := bitsF 8 (c ^^^ BitVec.ofNat 32 x.toNat)
def regF (c : BitVec 32) (l : List UInt8) : BitVec 32 := l.foldl byteF c
def moreF (c : BitVec 32) (l : List UInt8) : BitVec 32 := ~~~(regF (~~~c) l)

theorem u32v (x : Int) (r : BitVec 32) (h : BitVec.ofInt 32 x = r) : IntKind.u32.wrap x = (r.toNat : Int) := by
  subst h
  rw [IntKind.wrap_u32]
  simp [BitVec.toNat_ofInt]
  omega
theorem ofInt_toNat (a : BitVec 32) : BitVec.ofInt 32 (a.toNat : Int) = a := by simp
theorem bits_xor32 (a b : BitVec 32) : bits .xor .u32 (a.toNat : Int) (b.toNat : Int) = ((a ^^^ b).toNat : Int) := by
  show IntKind.u32.wrap _ = _
  refine u32v _ _ ?_
  show BitVec.ofInt 32 (((BitVec.ofInt 32 (a.toNat : Int)) ^^^ (BitVec.ofInt 32 (b.toNat : Int))).toNat : Int) = _
  simp only [ofInt_toNat]
theorem bits_and32 (a b : BitVec 32) : bits .and .u32 (a.toNat : Int) (b.toNat : Int) = ((a &&& b).toNat : Int) := by
  show IntKind.u32.wrap _ = _
  refine u32v _ _ ?_
  show BitVec.ofInt 32 (((BitVec.ofInt 32 (a.toNat : Int)) &&& (BitVec.ofInt 32 (b.toNat : Int))).toNat : Int) = _
  simp only [ofInt_toNat]
theorem bits_not32 (a : BitVec 32) : bits .xor .u32 IntKind.u32.max (a.toNat : Int) = ((~~~a).toNat : Int) := by
  have h : IntKind.u32.max = (((BitVec.allOnes 32).toNat : Nat) : Int) := by decide
  rw [h, bits_xor32, BitVec.allOnes_xor]
theorem bit_step (d : BitVec 32) : bits .xor .u32 ((d.toNat : Int) / 2) (bits .and .u32 (-bits .and .u32 (d.toNat : Int) 1 % 4294967296) 3988292384) = ((bitF d).toNat : Int) := by
  have h1 : bits .and .u32 (d.toNat : Int) 1 = (((d &&& 1#32 : BitVec 32).toNat : Nat) : Int) := bits_and32 d 1#32
  have h2 : ((d.toNat : Int) / (2 : Int)) = (((d >>> 1 : BitVec 32).toNat : Nat) : Int) := by
    simp [BitVec.toNat_ushiftRight, Nat.shiftRight_eq_div_pow]
  have h3 : ∀ a : BitVec 32, -(a.toNat : Int) % 4294967296 = (((0#32 - a).toNat : Nat) : Int) := by
    intro a
    have := a.isLt
    simp
    omega
  have h4 : ((3988292384 : Int)) = (((3988292384#32 : BitVec 32).toNat : Nat) : Int) := by decide
  rw [h1, h2, h3, h4, bits_and32, bits_xor32]
  rfl
theorem bits_byte (d : BitVec 32) (x : UInt8) : bits .xor .u32 (d.toNat : Int) ((x.toNat : Int) % 4294967296) = ((d ^^^ BitVec.ofNat 32 x.toNat).toNat : Int) := by
  have hx := x.toNat_lt
  have h : ((x.toNat : Int) % 4294967296) = (((BitVec.ofNat 32 x.toNat).toNat : Nat) : Int) := by
    simp; omega
  rw [h, bits_xor32]
theorem regF_snoc (c : BitVec 32) (l : List UInt8) (k : Nat) (h : k < l.length) : regF c (l.take (k + 1)) = byteF (regF c (l.take k)) l[k] := by
  unfold regF
  rw [List.take_add_one, List.foldl_append]
  simp [List.getElem?_eq_getElem h]

/-- a slice's address, and the bytes that lie there -/
def RB (w : World) (A : Option Addr) (zs : List UInt8) : Prop :=
  0 < zs.length → ∃ b off, A = some ⟨b, off, none⟩ ∧ b < w.heap.size ∧ ∀ j (h : j < zs.length), w.cell? ⟨b, off + j, none⟩ = some (.int .u8 (zs[j].toNat : Int))

theorem more_any (c : BitVec 32) (A : Option Addr) (cap : Nat) (zs : List UInt8) (w : World) (hbig : zs.length ≤ 9223372036854775807) (hc : RB w A zs) :
    Calls Try.prog 13 #[.int .u32 (c.toNat : Int), .slice A zs.length cap] w fun e w' => e = .returned (.int .u32 ((moreF c zs).toNat : Int)) ∧ w = w' := by
  have h0 := bits_not32 c
  have H0 := Lib.hid h0
  clear h0
  go_enter Try.func13, Try.ntmps13
  go_wp2
  go_loop [5, 12] (fun r i => ∃ (k : Nat) (d : BitVec 32), k ≤ zs.length ∧ i = .int .i64 k ∧ d = regF (~~~c) (zs.take k) ∧ r = .int .u32 (d.toNat : Int)) (fun _ i => zs.length - (intOf i).toNat)
  case atStart => exact ⟨0, _, by omega, rfl, rfl, by rw [H0.out]; rfl⟩
  case round =>
    obtain ⟨k, d, hk, rfl, hd, rfl⟩ := hrel
    have Hd := Lib.hid hd
    clear hd
    by_cases hlt : k < zs.length
    · obtain ⟨b, off, rfl, _, hcell⟩ := hc (by omega)
      have hcell := hcell k hlt
      have hs := regF_snoc (~~~c) zs k hlt
      have Hs := Lib.hid hs
      clear hs
      have Hb := Lib.hid (bits_byte d zs[k])
      go_wp2
      go_loop [5, 20] (fun r i => ∃ (j : Nat) (e : BitVec 32), j ≤ 8 ∧ i = .int .i64 j ∧ e = bitsF j (d ^^^ BitVec.ofNat 32 zs[k].toNat) ∧ r = .int .u32 (e.toNat : Int)) (fun _ i => 8 - (intOf i).toNat)
      case atStart => exact ⟨0, _, by omega, rfl, rfl, by rw [Hb.out]; rfl⟩
      case round =>
        obtain ⟨j, e, hj, rfl, he, rfl⟩ := hrel
        have He := Lib.hid he
        clear he
        by_cases hl : j < 8
        · go_wp2
          go_round
          case rel => exact ⟨j + 1, bitF e, by omega, by go_num, by rw [He.out]; rfl, by rw [bit_step]⟩
          case measure => simp [intOf]; omega
        · have hj8 : j = 8 := by omega
          subst hj8
          go_wp2
          go_round
          case rel => exact ⟨k + 1, e, by omega, by go_num, by rw [Hs.out, He.out, Hd.out]; rfl, rfl⟩
          case measure => simp [intOf]; omega
    · have hk' : k = zs.length := by omega
      subst hk'
      go_wp2
      go_ret
      refine ⟨?_, rfl⟩
      rw [bits_not32, Hd.out, List.take_length]
      rfl

theorem sum_any (A : Option Addr) (cap : Nat) (zs : List UInt8) (w : World) (hbig : zs.length ≤ 9223372036854775807) (hc : RB w A zs) :
    Calls Try.prog 14 #[.slice A zs.length cap] w fun e w' => e = .returned (.int .u32 ((moreF 0#32 zs).toNat : Int)) ∧ w = w' := by
  go_enter Try.func14, Try.ntmps14
  go_wp2_with fail
  refine (more_any 0#32 A cap zs w hbig hc).mono ?_
  rintro e w' ⟨rfl, rfl⟩
  go_wp2
  go_ret
  exact ⟨rfl, rfl⟩
end Go.Proofs.Ythigpdalmdmebaa
