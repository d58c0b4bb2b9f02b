/-
  WHAT THE BOUND OF THE SECOND FORM GIVES FOR SLICES OF BYTES: length, room, the bytes that lie there; and how such a reading is shut again behind a call that left old memory alone. (The bulk lemmas began as the given UptoLemmas.lean.) By an AI agent. No macro, syntax, notation, axiom, sorry.
-/
import Derived.Test.YthigpdalmdmebaaRows
import Derived.Test.YthigpdalmdmebaaMore
import Derived.WalkKit
import Derived.ProofKit
import Derived.OpenShut
import Derived.Below
import Derived.Laws.World
import Derived.ChangeSlices
namespace Go.Proofs.Ythigpdalmdmebaa
open Go.ChangeShapes Go.WideShapes Go.ChangeAt Go.RowKit

theorem bulk_one_le {H : Type} (d : DataW H) : 1 ≤ Rows.uptoBulk d := by
  cases d with
  | lit l => cases l <;> simp [Rows.uptoBulk]
  | nil => simp [Rows.uptoBulk]
  | ptr d => simp [Rows.uptoBulk]
  | slice elems spare => simp [Rows.uptoBulk]
  | agg parts => simp [Rows.uptoBulk]
  | iface t d => simp [Rows.uptoBulk]
  | map entries => simp [Rows.uptoBulk]
  | held h => simp [Rows.uptoBulk]

theorem bulk_length_le {H : Type} (l : List (DataW H)) : l.length ≤ Rows.uptoBulkAll l := by
  induction l with
  | nil => simp [Rows.uptoBulkAll]
  | cons x r ih => have := bulk_one_le x; simp only [Rows.uptoBulkAll, List.length_cons]; omega

theorem bulk_slice_le {H : Type} (elems spare : List (DataW H)) : elems.length + spare.length + 1 ≤ Rows.uptoBulk (.slice elems spare) := by
  have h1 := bulk_length_le elems
  have h2 := bulk_length_le spare
  simp only [Rows.uptoBulk]
  omega

/-- an integer between 0 and 255, as a byte -/
theorem byte_of {n : Int} (h : (Lit.int .u8 n).wf = true) : ∃ b : UInt8, n = (b.toNat : Int) := by
  have hx : 0 ≤ n ∧ n ≤ 255 := by simpa [Lit.wf, IntKind.min, IntKind.max, IntKind.signed, IntKind.bits] using h
  refine ⟨UInt8.ofNat n.toNat, ?_⟩
  simp
  omega

/-- A SLICE OF BYTES, OPENED: its bytes, its room, and the reading behind a call that left what was there alone. -/
theorem open_bytes {H : Type} {enc : TypeId × Value → H} {W : World} {base : Nat} {v : Value} {d : DataW H} {p : List MemPlace}
    (hval : Value.okWide Try.prog W .any base 22 v) (h : DataW.Trod enc Try.prog W 0 (fun _ => true) true 22 v d p) :
    ∃ (A : Option Addr) (cap : Nat) (xs : List UInt8), v = .slice A xs.length cap ∧ RB W A xs ∧ xs.length ≤ cap ∧ cap ≤ maxLen ∧ (A = none → cap = 0) ∧ xs.length + 1 ≤ Rows.uptoBulk d ∧ cap + 1 ≤ Rows.uptoBulk d + 0 ∧
      (∀ a, A = some a → 0 < cap → ∃ b off, a = ⟨b, off, none⟩) ∧
      ∀ W', Below W.heap.size W W' → ∀ sp : Nat → Bool, (∀ q ∈ p, sp q.block = true) → DataW.Trod enc Try.prog W' 0 sp true 22 v d p := by
  obtain ⟨a0, len0, cap0, rfl⟩ := okWide_slice Try.underlying22 hval
  obtain ⟨fuel, hf⟩ := h
  rcases open_ints Try.underlying22 Try.underlying5 (by kernel_rfl) hf with ⟨hcs, hx⟩ | ⟨a, len, cap, zs, hcs, hb, hl, hm, hz, hx, hcell, hw⟩
  · simp only [Value.cells, List.cons.injEq, Value.slice.injEq, and_true] at hcs
    obtain ⟨rfl, rfl, rfl⟩ := hcs
    simp only [Prod.mk.injEq] at hx
    obtain ⟨rfl, rfl⟩ := hx
    refine ⟨none, 0, [], rfl, fun h => by simp at h, by simp, by simp [maxLen], fun _ => rfl, by simp [Rows.uptoBulk], by simp [Rows.uptoBulk], fun _ h => by simp at h, fun W' hB sp hsp => ?_⟩
    refine ⟨1, ?_⟩
    rw [DataW.trod_step]
    unfold DataW.trodStep
    simp only [Value.cells, Try.underlying22]
  · simp only [Value.cells, List.cons.injEq, Value.slice.injEq, and_true] at hcs
    obtain ⟨rfl, rfl, rfl⟩ := hcs
    simp only [if_true] at hz
    simp only [Prod.mk.injEq] at hx
    obtain ⟨rfl, rfl⟩ := hx
    have hzs : ∃ ys : List UInt8, zs = ys.map (fun y => (y.toNat : Int)) := by
      clear hz hcell hf
      induction zs with
      | nil => exact ⟨[], rfl⟩
      | cons z zs ih =>
        obtain ⟨b, hb⟩ := byte_of (hw z (by simp))
        obtain ⟨ys, hys⟩ := ih (fun n hn => hw n (by simp [hn]))
        exact ⟨b :: ys, by simp [hb, hys]⟩
    obtain ⟨ys, rfl⟩ := hzs
    rw [List.length_map] at hz
    have hlen : (ys.take len0).length = len0 := by rw [List.length_take]; omega
    refine ⟨some a, cap0, ys.take len0, by rw [hlen], ?_, by omega, hm, by simp, ?_, ?_, ?_, ?_⟩
    · intro hp
      rw [hlen] at hp
      obtain ⟨b, off, rfl, hc⟩ := Go.ints_at hcell (by simp; omega)
      refine ⟨b, off, rfl, ?_, fun j hj => ?_⟩
      · have := hc 0 (by simp; omega)
        simp only [Nat.add_zero] at this
        simpa using World.block_lt_of_cell? (w := W) (a := ⟨b, off, none⟩) this
      · rw [hc j (by simp; simp at hj; omega)]
        rw [List.length_take] at hj
        simp [List.getD, show j < ys.length by omega]
    · have := bulk_slice_le (H := H) (lits .u8 ((ys.map fun y => (y.toNat : Int)).take len0)) (lits .u8 ((ys.map fun y => (y.toNat : Int)).drop len0))
      rw [hlen]
      have l1 : (lits (H := H) .u8 ((ys.map fun y => (y.toNat : Int)).take len0)).length = len0 := by simp only [lits, List.length_map, List.length_take]; omega
      have l2 : (lits (H := H) .u8 ((ys.map fun y => (y.toNat : Int)).drop len0)).length = cap0 - len0 := by simp only [lits, List.length_map, List.length_drop]; omega
      omega
    · have := bulk_slice_le (H := H) (lits .u8 ((ys.map fun y => (y.toNat : Int)).take len0)) (lits .u8 ((ys.map fun y => (y.toNat : Int)).drop len0))
      have l1 : (lits (H := H) .u8 ((ys.map fun y => (y.toNat : Int)).take len0)).length = len0 := by simp only [lits, List.length_map, List.length_take]; omega
      have l2 : (lits (H := H) .u8 ((ys.map fun y => (y.toNat : Int)).drop len0)).length = cap0 - len0 := by simp only [lits, List.length_map, List.length_drop]; omega
      omega
    · intro a' ha' hc0
      obtain rfl := Option.some.inj ha'
      obtain ⟨b, off, rfl, hc⟩ := Go.ints_at hcell (by simp; omega)
      exact ⟨b, off, rfl⟩
    · intro W' hB sp hsp
      refine ⟨2, ?_⟩
      refine shut_ints 0 Try.underlying22 Try.underlying5 (by kernel_rfl) hb hl hm ?_ (fun i hi => ?_) hw
      · rw [List.length_map, hz]
        by_cases h0 : cap0 = 0
        · subst h0
          have : len0 = 0 := by omega
          subst this
          simp
        · obtain ⟨b, off, rfl, hc⟩ := Go.ints_at hcell (by simp; omega)
          rw [if_pos]
          exact hsp (.cell b (off + 0)) (MemPlace.mem_row.2 ⟨0, by simp; omega, rfl⟩)
      · rw [hB.cell]
        · exact hcell i hi
        · exact World.block_lt_of_cell? W _ (hcell i hi)
end Go.Proofs.Ythigpdalmdmebaa
