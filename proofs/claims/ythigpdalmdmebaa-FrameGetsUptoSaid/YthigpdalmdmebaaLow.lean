/- frame.low answers a word's four bytes, the lowest first; wire.fold is the fold of a number; wire.PutInt behind nothing puts a length's bytes. -/
import Derived.Test.YthigpdalmdmebaaMore
import Derived.Below
import Derived.Laws.OwnMore
import Derived.Laws.AppendOwn
import Derived.OwnWalk
import Derived.Laws.BitsLemmas
import Derived.Deep.AppendLies
namespace Go.Proofs.Ythigpdalmdmebaa
open Go Go.RowKit

def lowV (c : BitVec 32) : Value := .agg #[.int .u8 ((c.toNat : Int) % 256), .int .u8 ((c.toNat : Int) / 256 % 256), .int .u8 ((c.toNat : Int) / 65536 % 256), .int .u8 ((c.toNat : Int) / 16777216)]

theorem low_any (c : BitVec 32) (w : World) :
    Calls Try.prog 19 #[.int .u32 (c.toNat : Int)] w fun e w' => e = .returned (lowV c) ∧ Below w.heap.size w w' := by
  go_enter Try.func19, Try.ntmps19
  go_wp2
  go_rounds 5
  refine bodyPost_ret (v := lowV c) (by simp [results, Try.results19, go_sem, lowV]) rfl ⟨rfl, ?_⟩
  exact ((Below.refl _ _).alloc (Nat.le_refl _) _).alloc (by simp) _

theorem ret_int {k : IntKind} {a b : Int} (h : a = b) : Ending.returned (.int k a) = .returned (.int k b) := by rw [h]
theorem xor64_0 (n : Nat) (h : n < 18446744073709551616) : bits .xor .u64 (n : Int) 0 = (n : Int) := by
  show IntKind.u64.wrap ((BitVec.ofInt 64 (n : Int) ^^^ BitVec.ofInt 64 0).toNat : Int) = _
  simp [IntKind.wrap, IntKind.bits, IntKind.signed]
  omega
theorem fold_any (n : Nat) (w : World) (hn : n < 9223372036854775808) : Calls Try.prog 34 #[.int .i64 (n : Int)] w fun e w' => e = .returned (.int .u64 ((2 * n : Nat) : Int)) ∧ w = w' := by
  go_enter Try.func34, Try.ntmps34
  go_wp2
  go_ret
  refine ⟨ret_int ?_, rfl⟩
  have h1 : ((n : Int) / 9223372036854775808) = 0 := by omega
  have h2 : ((n : Int) * 2) = ((2 * n : Nat) : Int) := by omega
  rw [h1, h2, xor64_0 _ (by omega)]

/-- a number's bytes, seven bits each, the lowest first -/
def vint : Nat → Nat → List UInt8
  | 0, f => [UInt8.ofNat f]
  | k + 1, f => if f < 128 then [UInt8.ofNat f] else UInt8.ofNat (f % 128 + 128) :: vint k (f / 128)
def byteV (x : UInt8) : Value := .int .u8 (x.toNat : Int)
theorem Try.info5 : (Try.prog.info? 5).map (fun i => (i.zero, i.size, i.bytes)) = some (some (.int .u8 0), 1, 1) := by kernel_rfl

theorem or128 (g : Nat) : bits .or .u8 ((g : Int) % 256) 128 = ((g % 128 + 128 : Nat) : Int) := by
  have h : ∀ a : Fin 256, bits .or .u8 ((a.val : Nat) : Int) 128 = ((a.val % 128 + 128 : Nat) : Int) := by decide +kernel
  have := h ⟨g % 256, by omega⟩
  simp only at this
  rw [show ((g : Int) % 256) = ((g % 256 : Nat) : Int) from by omega, this]
  congr 2; omega
set_option maxRecDepth 100000 in
theorem putInt_any (n : Nat) (w : World) (hn : n ≤ 1048576) : Calls Try.prog 24 #[.slice none 0 0, .int .i64 (n : Int)] w fun e w' =>
    ∃ v, e = .returned v ∧ w'.ownsRow w.heap.size 5 1 v (vint 9 (2 * n)).length ((vint 9 (2 * n)).map byteV) ∧ Below w.heap.size w w' := by
  obtain ⟨i0, hi, hz0, hz1, hz2⟩ := info_parts Try.info5
  go_enter Try.func24, Try.ntmps24
  go_wp2_with fail
  refine (fold_any n w (by omega)).mono ?_
  rintro e w' ⟨rfl, rfl⟩
  go_wp2
  go_loopw [0, 5] (fun v f wr => ∃ (xs : List UInt8) (g k : Nat), k + xs.length = 9 ∧ (g ≤ 2097152 ∧ (k = 0 → g < 128) ∧ (k = 1 → g < 16384) ∧ (k = 2 → g < 2097152)) ∧ f = .int .u64 (g : Int) ∧ xs ++ vint k g = vint 9 (2 * n) ∧ wr.ownsRow w.heap.size 5 1 v xs.length (xs.map byteV) ∧ Below w.heap.size w wr) (fun _ f _ => (intOf f).toNat)
  case atStart => exact ⟨[], 2 * n, 9, rfl, ⟨by omega, by omega, by omega, by omega⟩, rfl, rfl, World.ownsRow_nil _ _ _ _, Below.refl _ _⟩
  case round =>
    obtain ⟨xs, g, k, hk, ⟨hg, hg0, hg1, hg2⟩, rfl, hv, hown, hb⟩ := hrel
    have Hg := Lib.hid (And.intro hg0 (And.intro hg1 hg2))
    clear hg0 hg1 hg2
    have Hv := Lib.hid hv
    have Hk := Lib.hid hk
    have Hown := Lib.hid hown
    have Hb := Lib.hid hb
    clear hv hk hown hb
    have hbase : w.heap.size ≤ wr.heap.size := Hb.out.size
    have hx9 : xs.length ≤ 9 := by have := Hk.out; omega
    by_cases hlt : g < 128
    · have hnl : ¬ (128 ≤ g) := by omega
      go_wp2_with (at_builtin; refine wpList_append_own _ rfl _ _ 22 rfl w.heap.size 5 i0 (.int .u8 0) 1 1 Try.underlying22 hi hz0 hz1 hz2 rfl (by decide) _ _ _ rfl (Hown.out.alloc _) ⟨wr.heap.size, 0, none⟩ 1 1 [.int .u8 (g : Int)] rfl rfl ?c1 ?c2 ?c3 ?c4 ?c5 ?_)
      case c1 => exact World.news_of_block (heap_alloc_new _ _)
      case c2 => intro u hu; obtain rfl := List.mem_singleton.1 hu; rfl
      case c3 => simp only [maxLen]; omega
      case c4 => omega
      case c5 => simp; omega
      intro v' w1 hown' hgrow _
      have Hown' := Lib.hid hown'
      have Hgrow := Lib.hid hgrow
      clear hown' hgrow
      go_wp2
      go_ret
      refine ⟨v', rfl, ?_, ?_⟩
      · have hv : vint 9 (2 * n) = xs ++ [UInt8.ofNat g] := by
          rw [← Hv.out]
          congr 1
          cases k <;> simp [vint, hlt]
        rw [hv, List.map_append, List.length_append]
        have hg8 : byteV (UInt8.ofNat g) = .int .u8 (g : Int) := by
          unfold byteV; simp; omega
        simp only [List.map_cons, List.map_nil, hg8]
        exact Hown'.out
      · exact (Hb.out.alloc hbase _).grown Hgrow.out (by simp; omega) (fun k hk => (Hown.out.lt k hk).1)
    · go_wp2_with (at_builtin; refine wpList_append_own _ rfl _ _ 22 rfl w.heap.size 5 i0 (.int .u8 0) 1 1 Try.underlying22 hi hz0 hz1 hz2 rfl (by decide) _ _ _ rfl (Hown.out.alloc _) ⟨wr.heap.size, 0, none⟩ 1 1 [.int .u8 (bits .or .u8 ((g : Int) % 256) 128)] rfl rfl ?c1 ?c2 ?c3 ?c4 ?c5 ?_)
      case c1 => exact World.news_of_block (heap_alloc_new _ _)
      case c2 => intro u hu; obtain rfl := List.mem_singleton.1 hu; rfl
      case c3 => simp only [maxLen]; omega
      case c4 => omega
      case c5 => simp; omega
      intro v' w1 hown' hgrow _
      have Hown' := Lib.hid hown'
      have Hgrow := Lib.hid hgrow
      clear hown' hgrow
      go_wp2
      have hg3 := Hg.out
      have hg4 : bits .or .u8 ((g : Int) % 256) 128 = ((g % 128 + 128 : Nat) : Int) := or128 g
      rw [hg4] at Hown' Hgrow
      obtain ⟨k, rfl⟩ : ∃ m, k = m + 1 := ⟨k - 1, by omega⟩
      refine ⟨⟨xs ++ [UInt8.ofNat (g % 128 + 128)], g / 128, k, ?_, ⟨by omega, by omega, by omega, by omega⟩, by simp, ?_, ?_, ?_⟩, ?_⟩
      · have := Hk.out; simp; omega
      · rw [← Hv.out, List.append_assoc]; congr 1; simp [vint, hlt]
      · have hg8 : byteV (UInt8.ofNat (g % 128 + 128)) = .int .u8 ((g % 128 + 128 : Nat) : Int) := by
          unfold byteV; congr 1; simp; omega
        rw [List.map_append, List.length_append]
        simp only [List.map_cons, List.map_nil, hg8, List.length_singleton]
        exact Hown'.out
      · exact (Hb.out.alloc hbase _).grown Hgrow.out (by simp; omega) (fun k hk => (Hown.out.lt k hk).1)
      · simp [intOf]; omega
end Go.Proofs.Ythigpdalmdmebaa
