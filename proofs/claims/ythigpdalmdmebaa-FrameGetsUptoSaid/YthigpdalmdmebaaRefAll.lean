/- The document's answer for all frames: the reference's All answers what 'allL' says. -/
import Derived.Test.YthigpdalmdmebaaRefGet
namespace Go.Proofs.Ythigpdalmdmebaa
open Go Go.RowKit

theorem refGet_arg (zs : List UInt8) (at_ : Int) (w : World) (h : at_ < 0 ∨ (zs.length : Int) < at_) : Calls Try.prog 8 #[.string ⟨zs.toArray⟩, .int .i64 at_] w fun e w' =>
    e = .returned (.tuple #[.string ⟨#[]⟩, .int .i64 0, .int .i64 2]) ∧ w = w' := by
  have hsz : (⟨zs.toArray⟩ : ByteArray).size = zs.length := rfl
  rcases Int.lt_or_le at_ 0 with h0 | h0
  · have hd : decide (at_ < 0) = true := by simpa using h0
    go_enter Try.func8, Try.ntmps8
    go_wp2_with fail
    refine bodyPost_ret (v := .tuple #[.string ⟨#[]⟩, .int .i64 0, .int .i64 2]) (by simp [results, Try.results8, go_sem]) rfl ⟨rfl, rfl⟩
  · have hd : (zs.length : Int) < at_ := by omega
    clear h
    go_enter Try.func8, Try.ntmps8
    go_wp2_with fail
    refine bodyPost_ret (v := .tuple #[.string ⟨#[]⟩, .int .i64 0, .int .i64 2]) (by simp [results, Try.results8, go_sem]) rfl ⟨rfl, rfl⟩

def SV (x : List UInt8) : Value := .string ⟨x.toArray⟩
def lastL (l : List (List UInt8 × Nat)) : Nat := match l.getLast? with | some x => x.2 | none => 0
theorem Try.info9 : (Try.prog.info? 9).map (fun i => (i.zero, i.size, i.bytes)) = some (some (.string ⟨#[]⟩), 1, 16) := by kernel_rfl

set_option maxRecDepth 100000 in
set_option maxHeartbeats 2000000 in
theorem refAll_any (zs : List UInt8) (w : World) (hlen : zs.length ≤ 1048576) : Calls Try.prog 10 #[.string ⟨zs.toArray⟩] w fun e w' =>
    ∃ v, e = .returned (.tuple #[v, .int .i64 (lastL (allL zs (zs.length + 1) 0) : Int)]) ∧
      w'.ownsRow w.heap.size 9 1 v (allL zs (zs.length + 1) 0).length ((allL zs (zs.length + 1) 0).map fun x => SV x.1) ∧ Below w.heap.size w w' := by
  obtain ⟨i0, hi, hz0, hz1, hz2⟩ := info_parts Try.info9
  have hsz : (⟨zs.toArray⟩ : ByteArray).size = zs.length := rfl
  go_enter Try.func10, Try.ntmps10
  go_wp2
  go_loopw [4, 5] (fun out i wr => ∃ (k f : Nat) (pre : List (List UInt8 × Nat)), k ≤ zs.length ∧ i = .int .i64 k ∧ k = lastL pre ∧ zs.length - k < f ∧ pre.length ≤ k ∧ pre ++ allL zs f k = allL zs (zs.length + 1) 0 ∧
      wr.ownsRow w.heap.size 9 1 out pre.length (pre.map fun x => SV x.1) ∧ Below w.heap.size w wr) (fun _ i _ => zs.length - (intOf i).toNat)
  case atStart => exact ⟨0, zs.length + 1, [], by omega, rfl, rfl, by omega, by simp, rfl, World.ownsRow_nil _ _ _ _, Below.refl _ _⟩
  case round =>
    obtain ⟨k, f, pre, hk, rfl, hlast, hf, hpl, hall, hown, hb⟩ := hrel
    obtain ⟨V, c, rfl⟩ := own_form hown
    have Hlast := Lib.hid hlast
    have Hall := Lib.hid hall
    have Hown := Lib.hid hown
    have Hb := Lib.hid hb
    clear hlast hall hown hb
    obtain ⟨f, rfl⟩ : ∃ g, f = g + 1 := ⟨f - 1, by omega⟩
    by_cases hlt : k < zs.length
    · have hnx := getN_next zs k
      have hal := Hall.out
      rw [allL, if_pos hlt] at hal
      have Hal := Lib.hid hal
      clear hal
      go_wp2_with fail
      refine (refGet_any zs k wr (by omega) (by omega)).mono ?_
      rintro e w1 ⟨rfl, hb1⟩
      generalize getN zs k = t at hnx Hal
      obtain ⟨x, nx, er⟩ := t
      have Hb1 := Lib.hid hb1
      clear hb1
      simp only [] at hnx ⊢
      by_cases her : er = 0
      · subst her
        have hnx := hnx rfl
        have hal := Hal.out
        simp only [if_true] at hal
        have Hal2 := Lib.hid hal
        have Hown1 := Lib.hid (own_below Hown.out Hb1.out)
        have hbb : Below w.heap.size w w1 := Hb.out.trans (Hb1.out.mono Hb.out.size)
        have Hbb := Lib.hid hbb
        clear hal hbb
        go_wp2_with (at_builtin; refine wpList_append_own _ rfl _ _ 32 rfl w.heap.size 9 i0 (.string ⟨#[]⟩) 1 16 Try.underlying32 hi hz0 hz1 hz2 rfl (by decide) _ _ _ rfl (Hown1.out.alloc _) ⟨w1.heap.size, 0, none⟩ 1 1 [SV x] rfl rfl ?c1 ?c2 ?c3 ?c4 ?c5 ?_)
        case c1 => exact fun _ _ h => h
        case c2 => first | rfl | (intro u hu; obtain rfl := List.mem_singleton.1 hu; rfl)
        case c3 => simp only [maxLen]; omega
        case c4 => omega
        case c5 => have := Hbb.out.size; simp; omega
        intro v' w2 hown' hgrow _
        have Hown' := Lib.hid hown'
        have Hgrow := Lib.hid hgrow
        clear hown' hgrow
        go_wp2
        go_roundw
        case rel =>
          refine ⟨nx, f, pre ++ [(x, nx)], by omega, rfl, ?_, by omega, ?_, ?_, ?_, ?_⟩
          · simp [lastL]
          · simp; omega
          · rw [← Hal2.out]; simp
          · simpa using Hown'.out
          · exact (Hbb.out.alloc Hbb.out.size _).grown Hgrow.out (by have := Hbb.out.size; simp; omega) (fun k hk => (Hown1.out.lt k hk).1)
        case measure => simp [intOf]; omega
      · have hne : ((er : Int) != 0) = true := by simpa using her
        have hal := Hal.out
        simp only [her, if_false, List.append_nil] at hal
        have Hal2 := Lib.hid hal
        clear hal hnx
        go_wp2_with fail
        refine bodyPost_ret (v := .tuple #[.slice V pre.length c, .int .i64 (k : Int)]) (by simp [results, Try.results10, go_sem]) rfl ⟨.slice V pre.length c, ?_, ?_, ?_⟩
        · rw [← Hal2.out, ← Hlast.out]
        · rw [← Hal2.out]; exact own_below Hown.out Hb1.out
        · exact Hb.out.trans (Hb1.out.mono Hb.out.size)
    · have hke : k = zs.length := by omega
      have hal := Hall.out
      rw [allL, if_neg hlt] at hal
      have Hal := Lib.hid hal
      clear hal
      have hdk : decide ((k : Int) < (zs.length : Int)) = false := by simp; omega
      go_wp2_with fail
      refine bodyPost_ret (v := .tuple #[.slice V pre.length c, .int .i64 (k : Int)]) (by simp [results, Try.results10, go_sem]) rfl ⟨.slice V pre.length c, ?_, ?_, ?_⟩
      · rw [← Hal.out, List.append_nil, ← Hlast.out]
      · rw [← Hal.out, List.append_nil]; exact Hown.out
      · exact Hb.out
end Go.Proofs.Ythigpdalmdmebaa
