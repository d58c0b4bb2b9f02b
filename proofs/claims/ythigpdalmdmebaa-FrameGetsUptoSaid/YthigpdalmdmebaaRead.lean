/- wire.count, the reader's Count, Err, At answer what stands at the front of the reader's text. -/
import Derived.Test.YthigpdalmdmebaaNum
import Derived.Laws.BytesArg
import Derived.Deep.QuietTactic
import Derived.BigQuiet
namespace Go.Proofs.Ythigpdalmdmebaa
open Go Go.RowKit

/-- a count that is not above most: it, how many bytes it has, what went wrong -/
def cntF (l : List UInt8) (most : Nat) : Nat × Nat × Nat :=
  if (numF l).2.2 ≠ 0 then (0, 0, (numF l).2.2)
  else if (numF l).1 < 0 then (0, 0, 4)
  else if (most : Int) < (numF l).1 then (0, 0, 5)
  else ((numF l).1.toNat, (numF l).2.1, 0)
theorem cntF_zero (l : List UInt8) (most : Nat) : (cntF l most).2.2 ≠ 0 → (cntF l most).1 = 0 ∧ (cntF l most).2.1 = 0 := by
  unfold cntF
  split
  · intro _; exact ⟨rfl, rfl⟩
  · split
    · intro _; exact ⟨rfl, rfl⟩
    · split
      · intro _; exact ⟨rfl, rfl⟩
      · intro h; exact absurd rfl h
theorem numR_used (l : List UInt8) : ∀ r i f, (numR l r i f).2.1 ≤ i + r ∧ ((numR l r i f).2.2 = 0 → (numR l r i f).2.1 ≤ l.length) := by
  intro r
  induction r with
  | zero => intro i f; simp [numR]
  | succ r ih =>
    intro i f
    simp only [numR]
    split
    · simp
    · rename_i c hc
      have hl := (List.getElem?_eq_some_iff.1 hc).1
      split
      · simp
      · split
        · have := ih (i + 1) (f + c.toNat % 128 * 128 ^ i)
          exact ⟨by omega, this.2⟩
        · split
          · simp
          · exact ⟨by simp only; omega, fun _ => by simp only; omega⟩
theorem cntF_used (l : List UInt8) (most : Nat) : (cntF l most).2.1 ≤ 10 := by
  unfold cntF
  split
  · simp
  · split
    · simp
    · split
      · simp
      · have := (numR_used l 10 0 0).1
        simp only [numF]; omega
theorem cntF_fits (l : List UInt8) (most : Nat) : (cntF l most).2.2 = 0 → (cntF l most).2.1 ≤ l.length := by
  unfold cntF
  split
  · rename_i h; intro h2; exact absurd h2 h
  · rename_i h
    have h0 : (numF l).2.2 = 0 := by omega
    split
    · simp
    · split
      · simp
      · intro _; exact (numR_used l 10 0 0).2 h0
theorem grown_set {w : World} (n : Nat) (p : Addr) (u : Value) : w.grownBy ((w.drewN n).setCell p u) (some p.block) :=
  ⟨rfl, rfl, rfl, by simp [World.setCell], fun k _ hk => Below.heap_setCell (w.drewN n) p u k (fun e => hk (by rw [e]))⟩
theorem cntF_pos {l : List UInt8} {most : Nat} : (cntF l most).2.2 = 0 → (cntF l most).1 ≤ most := by
  unfold cntF
  split
  · simp
  · split
    · simp
    · split
      · simp
      · intro _; simp only; omega

theorem ret3 {a b c d e f : Int} (h1 : a = d) (h2 : b = e) (h3 : c = f) : Ending.returned (.tuple #[.int .i64 a, .int .i64 b, .int .i64 c]) = .returned (.tuple #[.int .i64 d, .int .i64 e, .int .i64 f]) := by rw [h1, h2, h3]

theorem count_any (s : ByteArray) (most : Nat) (w : World) (hm : most ≤ 1048576) : Calls Try.prog 28 #[.string s, .int .i64 (most : Int)] w fun e w' =>
    e = .returned (.tuple #[.int .i64 ((cntF s.data.toList most).1 : Int), .int .i64 ((cntF s.data.toList most).2.1 : Int), .int .i64 ((cntF s.data.toList most).2.2 : Int)]) ∧ w = w' := by
  have hcnt : cntF s.data.toList most = cntF s.data.toList most := rfl
  conv at hcnt => rhs; unfold cntF
  generalize hN : numF s.data.toList = N at hcnt
  obtain ⟨n, u, er⟩ := N
  have HN := Lib.hid hN
  clear hN
  simp only [] at hcnt
  have Hcnt := Lib.hid hcnt
  clear hcnt
  go_enter Try.func28, Try.ntmps28
  go_wp2_with fail
  refine (number_any s w).mono ?_
  rintro e w' ⟨rfl, rfl⟩
  rw [HN.out]
  simp only []
  by_cases he : er = 0
  · subst he
    have h0 := Hcnt.out
    rw [if_neg (by simp)] at h0
    by_cases hn : n < 0
    · rw [if_pos hn] at h0
      have H0 := Lib.hid h0
      clear h0
      go_wp2_with fail
      go_ret3
      refine ⟨?_, rfl⟩
      rw [H0.out]; rfl
    · rw [if_neg hn] at h0
      by_cases hb : (most : Int) < n
      · rw [if_pos hb] at h0
        have H0 := Lib.hid h0
        clear h0
        go_wp2_with fail
        all_goals go_ret3
        all_goals refine ⟨?_, rfl⟩
        all_goals rw [H0.out]; rfl
      · rw [if_neg hb] at h0
        have H0 := Lib.hid h0
        clear h0
        go_wp2_with fail
        all_goals go_ret3
        all_goals refine ⟨?_, rfl⟩
        all_goals rw [H0.out]
        all_goals exact ret3 (by show n = ((n.toNat : Nat) : Int); omega) rfl rfl
  · have hne : ((er : Int) != 0) = true := by simp; omega
    have h1 := Hcnt.out
    rw [if_pos he] at h1
    have H1 := Lib.hid h1
    clear h1
    go_wp2_with fail
    go_ret3
    refine ⟨?_, rfl⟩
    rw [H1.out]; rfl

/-- the reader's struct -/
def RdV (s : ByteArray) (at_ : Nat) (er : Nat) : Array Value := #[.bool true, .string s, .int .i64 (at_ : Int), .int .i64 (er : Int)]
def Blk (w : World) (g : Nat) (t : TypeId) (cs : Array Value) : Prop := w.heap[g]? = some (.cells cs t (0, 0))
theorem Blk.lt {w : World} {g : Nat} {t : TypeId} {cs : Array Value} (h : Blk w g t cs) : g < w.heap.size := by
  rcases Nat.lt_or_ge g w.heap.size with hlt | hge
  · exact hlt
  · unfold Blk at h; rw [Array.getElem?_eq_none hge] at h; cases h
theorem Blk.cell {w : World} {g : Nat} {t : TypeId} {cs : Array Value} (h : Blk w g t cs) (i : Nat) : w.cell? ⟨g, i, none⟩ = cs[i]? := cell_of_row w g i cs t (0, 0) h
theorem Blk.frozen {w : World} {g : Nat} {t : TypeId} {cs : Array Value} (h : Blk w g t cs) (i : Nat) : w.frozen? ⟨g, i, none⟩ = false := by
  unfold Blk at h
  simp [World.frozen?, h]
theorem Blk.below {w w' : World} {g : Nat} {t : TypeId} {cs : Array Value} {B : Nat} (h : Blk w g t cs) (hb : Below B w w') (hg : g < B) : Blk w' g t cs := (hb.block g hg).trans h
theorem Blk.set_ {w : World} {g : Nat} {t : TypeId} {cs : Array Value} (h : Blk w g t cs) (i : Nat) (u : Value) : Blk (w.setCell ⟨g, i, none⟩ u) g t (cs.setIfInBounds i u) := by
  unfold Blk at h ⊢
  simp [World.setCell, Array.getElem?_modify, h]


theorem err_any (g : Nat) (s : ByteArray) (at_ er : Nat) (w : World) (hb : Blk w g 63 (RdV s at_ er)) :
    Calls Try.prog 17 #[.pointer (some ⟨g, 0, none⟩)] w fun e w' => e = .returned (.int .i64 (er : Int)) ∧ w = w' := by
  have h0 : w.cell? ⟨g, 0, none⟩ = some (.bool true) := hb.cell 0
  have h3 : w.cell? ⟨g, 3, none⟩ = some (.int .i64 (er : Int)) := hb.cell 3
  clear hb
  go_enter Try.func17, Try.ntmps17
  go_wp2_with fail
  go_ret
  exact ⟨rfl, rfl⟩

theorem at_any (g : Nat) (s : ByteArray) (at_ er : Nat) (w : World) (hb : Blk w g 63 (RdV s at_ er)) :
    Calls Try.prog 18 #[.pointer (some ⟨g, 0, none⟩)] w fun e w' => e = .returned (.int .i64 (at_ : Int)) ∧ w = w' := by
  have h2 : w.cell? ⟨g, 2, none⟩ = some (.int .i64 (at_ : Int)) := hb.cell 2
  clear hb
  go_enter Try.func18, Try.ntmps18
  go_wp2_with fail
  go_ret
  exact ⟨rfl, rfl⟩

theorem conv_bytes (w : World) (A : Option Addr) (cap : Nat) (zs : List UInt8) (hc : RB w A zs) : (convert 22 9 (.slice A zs.length cap)).run Try.prog w = .ok (.string ⟨zs.toArray⟩) w := by
  rcases Nat.eq_zero_or_pos zs.length with h0 | h0
  · have hz := List.eq_nil_of_length_eq_zero h0
    subst hz
    rcases A with _ | ad
    · exact run_convert_bytes_nil w 22 5 Try.underlying22 Try.underlying5 0 cap 9 Try.underlying9
    · rw [show ([] : List UInt8).length = 0 from rfl, run_convert_bytes_string w 22 9 5 _ 0 cap Try.underlying22 Try.underlying5 Try.underlying9, run_bytesToString w ad 0 cap [] (by simp [loadCells, loadCellsFrom])]
      simp
      rfl
  · obtain ⟨b, off, rfl, _, hcell⟩ := hc h0
    have h := run_convert_bytes_arg (P := Try.prog) w 22 5 Try.underlying22 Try.underlying5 b off zs.length cap (zs.map fun x => (x.toNat : Int)) (by simp) (fun i hi => by
      rw [hcell i hi]; simp [List.getD, List.getElem?_eq_getElem hi]) 9 Try.underlying9
    rw [h]
    congr 2
    unfold strOfNums
    congr 1
    rw [List.map_map]
    have hid : ((fun n : Int => UInt8.ofNat n.toNat) ∘ fun x : UInt8 => (x.toNat : Int)) = id := by
      funext x; simp
    rw [hid, List.map_id]
theorem newReader_any (A : Option Addr) (cap : Nat) (zs : List UInt8) (w : World) (hc : RB w A zs) :
    Calls Try.prog 15 #[.slice A zs.length cap] w fun e w' => e = .returned (.pointer (some ⟨w.heap.size, 0, none⟩)) ∧ w' = w.alloc (.cells (RdV ⟨zs.toArray⟩ 0 0) 63) := by
  have hconv := conv_bytes w A cap zs hc
  clear hc
  go_enter Try.func15, Try.ntmps15
  go_wp2_with fail
  go_ret
  exact ⟨rfl, rfl⟩

theorem closure_any (s : ByteArray) (q : Nat) (most : Nat) (w : World) (hm : most ≤ 1048576) (hq : w.cell? ⟨q, 0, none⟩ = some (.int .i64 (most : Int))) : Calls Try.prog 27 #[.string s, .pointer (some ⟨q, 0, none⟩)] w fun e w' =>
    e = .returned (.tuple #[.int .i64 ((cntF s.data.toList most).1 : Int), .int .i64 ((cntF s.data.toList most).2.1 : Int), .int .i64 ((cntF s.data.toList most).2.2 : Int)]) ∧ w = w' := by
  go_enter Try.func27, Try.ntmps27
  go_wp2_with fail
  refine (count_any s most w hm).mono ?_
  rintro e w' ⟨rfl, rfl⟩
  go_wp2_with fail
  go_ret3
  exact ⟨rfl, rfl⟩

theorem read_any (g q : Nat) (s : ByteArray) (most : Nat) (w : World) (hm : most ≤ 1048576) (hb : Blk w g 63 (RdV s 0 0)) (hq : w.cell? ⟨q, 0, none⟩ = some (.int .i64 (most : Int))) :
    Calls Try.prog 26 #[.pointer (some ⟨g, 0, none⟩), .func (.func 27) #[] #[.pointer (some ⟨q, 0, none⟩)]] w fun e w' =>
      e = .returned (.int .i64 ((cntF s.data.toList most).1 : Int)) ∧ Blk w' g 63 (RdV s (cntF s.data.toList most).2.1 (cntF s.data.toList most).2.2) ∧ w.grownBy w' (some g) := by
  have h1 : w.cell? ⟨g, 1, none⟩ = some (.string s) := hb.cell 1
  have h2 : w.cell? ⟨g, 2, none⟩ = some (.int .i64 0) := hb.cell 2
  have h3 : w.cell? ⟨g, 3, none⟩ = some (.int .i64 0) := hb.cell 3
  have f2 : w.frozen? ⟨g, 2, none⟩ = false := hb.frozen 2
  have f3 : w.frozen? ⟨g, 3, none⟩ = false := hb.frozen 3
  have Hb := Lib.hid hb
  clear hb
  go_enter Try.func26, Try.ntmps26
  go_wp2_with fail
  refine (err_any g s 0 0 w Hb.out).mono ?_
  rintro e w' ⟨rfl, rfl⟩
  go_wp2_with fail
  go_quiet ((go_at_call 27; exact Calls.quiet_of_same ((closure_any s q most _ hm (by exact hq)).mono fun _ _ h => ⟨h.1, h.2.symm⟩)))
  have hz := cntF_zero s.data.toList most
  have hu := cntF_used s.data.toList most
  obtain ⟨⟨n, u, er⟩, hC⟩ : ∃ C, cntF s.data.toList most = C := ⟨_, rfl⟩
  rw [hC] at hz hu ⊢
  have HC := Lib.hid hC
  clear hC
  simp only [] at hz hu ⊢
  have Hz := Lib.hid hz
  clear hz
  by_cases he : er = 0
  · subst he
    go_wp2_with fail
    go_ret
    rw [HC.out]
    refine ⟨rfl, ?_, ?_⟩
    · exact Blk.set_ (w := w.drewN nq) Hb.out 2 _
    · exact grown_set (w := w) nq ⟨g, 2, none⟩ _
  · have hne : (((er : Nat) : Int) != 0) = true := by simp; omega
    obtain ⟨rfl, rfl⟩ := Hz.out he
    go_wp2_with fail
    go_ret
    rw [HC.out]
    refine ⟨rfl, ?_, ?_⟩
    · exact Blk.set_ (w := w.drewN nq) Hb.out 3 _
    · exact grown_set (w := w) nq ⟨g, 3, none⟩ _

theorem countR_any (g : Nat) (s : ByteArray) (most : Nat) (w : World) (hm : most ≤ 1048576) (hb : Blk w g 63 (RdV s 0 0)) :
    Calls Try.prog 16 #[.pointer (some ⟨g, 0, none⟩), .int .i64 (most : Int)] w fun e w' =>
      e = .returned (.int .i64 ((cntF s.data.toList most).1 : Int)) ∧ Blk w' g 63 (RdV s (cntF s.data.toList most).2.1 (cntF s.data.toList most).2.2) ∧ w.grownBy w' (some g) := by
  have hlt := hb.lt
  have hb1 : Blk (w.alloc (.cells #[.int .i64 (most : Int)] 3)) g 63 (RdV s 0 0) := (Below.heap_alloc w _ g hlt).trans hb
  have Hb1 := Lib.hid hb1
  clear hb1 hb
  have hmf : ∀ (fn : Fn) (first cap : Array Value) (w : World), (Instr.makeFunc fn first cap).run Try.prog w = .ok (.func fn first cap) w := fun _ _ _ _ => rfl
  go_enter Try.func16, Try.ntmps16
  go_wp2_with fail
  refine (read_any g w.heap.size s most _ hm Hb1.out (by rw [World.cell?_alloc_at _ _ _ _ rfl]; rfl)).mono ?_
  rintro e w' ⟨rfl, hb2, hg⟩
  have Hb2 := Lib.hid hb2
  have Hg := Lib.hid hg
  clear hb2 hg
  go_wp2_with fail
  go_ret
  refine ⟨rfl, Hb2.out, ?_⟩
  exact (World.grownBy_alloc w _ (some g)).trans Hg.out
end Go.Proofs.Ythigpdalmdmebaa
