/-
  THE ROW 'FrameGetsUptoSaid': the walk 'gets_any' and the bound, joined. By an AI agent. No macro, syntax, notation, axiom, sorry.
-/
import Derived.Test.YthigpdalmdmebaaRows
import Derived.Test.YthigpdalmdmebaaBulk
import Derived.Test.YthigpdalmdmebaaGets
import Derived.WalkKit
import Derived.ProofKit
import Derived.OpenShut
import Derived.JoinedCond
namespace Go.Proofs.Ythigpdalmdmebaa.rowGets
open Go.ChangeShapes Go.WideShapes Go.ChangeAt Go.RowKit

theorem own : ownKnob Try.prog.godebug = none := by kernel_rfl

theorem contract (H : Type) (enc : TypeId × Value → H) (W : World) (base : Nat) (args : Array Value) (ds gs : List (DataW H)) (before : List MemPlace)
    (hval : ∀ (j : Nat) t v, Try.f3.params[j]? = some t → args[j]? = some v → Value.okWide Try.prog W .any base t v)
    (hW : DataW.Whole enc Try.prog Try.f3.params.toList Rows.frameGetsSpec.vars false W args.toList ds gs before) (hk : Rows.uptoSmall H (ds ++ gs) = true) :
    Calls Try.prog 3 args W fun e W' => ∃ v, e = .returned v ∧ Rows.frameGetsSpec.post enc Try.prog Try.f3 false true false false W args v W' := by
  have hW' := hW
  have hold := hW.lt
  obtain ⟨p, q, hA0, hV, rfl, hfz, hnd⟩ := hW
  have hA : DataW.TrodAll enc Try.prog W 0 (fun _ => true) true Try.f3.params.toList args.toList ds p := hA0
  rw [Try.params3] at hA hval
  obtain ⟨v0, vs0, d0, ds0, p0, q0, hargs, rfl, rfl, h0, r0⟩ := trodAll_cons hA
  obtain ⟨v1, vs1, d1, ds1, p1, q1, rfl, rfl, rfl, h1, r1⟩ := trodAll_cons r0
  obtain ⟨rfl, rfl, rfl⟩ := trodAll_nil r1
  obtain rfl : args = #[v0, v1] := by cases args; simp_all
  obtain ⟨rfl, rfl⟩ := trodVars_none hV
  obtain ⟨A, ca, xa, rfl, rA, lA, mA, nA, bA, cA, -, backA⟩ := open_bytes (hval 0 22 _ rfl rfl) h0
  obtain ⟨a1, rfl, rfl, rfl, w1⟩ := open_int Try.underlying3 (hval 1 3 v1 rfl rfl) h1
  have hs : Rows.uptoBulkAll [d0, .lit (.int .i64 a1)] ≤ 1048576 := by
    have := of_decide_eq_true hk
    simpa only [List.append_nil, List.cons_append, List.nil_append] using this
  simp only [Rows.uptoBulkAll, Rows.uptoBulk] at hs
  clear hA0
  refine (gets_any A ca xa a1 W (by omega) rA nA).mono fun e W' ⟨he, hg⟩ => ?_
  subst he
  refine ⟨_, rfl, [d0, .lit (.int .i64 a1)], [], _, [], p0 ++ ([] ++ []), [], hW', trodAll_mk1 (shut_bool Try.underlying4 _), ?_, rfl, hg.frame _, fun h => by cases h⟩
  have hsp : ∀ q ∈ p0 ++ ([] ++ []) ++ [], (fun b => decide (b < W.heap.size)) q.block = true := fun q hq => by simpa using hold q hq
  exact trodAll_cons_mk (backA W' hg _ (fun q hq => hsp q (by simp [hq]))) (trodAll_cons_mk (shut_int Try.underlying3 w1) trodAll_mk0)

set_option maxRecDepth 100000 in
theorem lifted (os : Os) (started : os.Started) (H : Type) (enc : TypeId × Value → H) (F : Stop.Interp) :
    ReturnsInHanded {} Try.checked os 3 .any ((Rows.OpenSpec.upto Rows.frameGetsSpec).pre6 enc Try.prog Try.f3 Rows.frameGetsUptoRow.domain false) (((Rows.OpenSpec.upto Rows.frameGetsSpec).at F).post enc Try.prog Try.f3 false true false false) := by
  refine returnsInHanded_of_cond (C := Try.checked) (s := Rows.OpenSpec.upto Rows.frameGetsSpec) (k := Rows.uptoSmall) rfl own started (by kernel_rfl) Try.func3
    (OpenSpec.witness (enc := enc) (C := Try.checked) (s := Rows.OpenSpec.upto Rows.frameGetsSpec) (k := Rows.uptoSmall) rfl false ⟨#[], #[.slice none 0 0, .int .i64 0], []⟩ 8 (by kernel_rfl) (by kernel_rfl) (by kernel_rfl)
      (x := ([.nil, .lit (.int .i64 0)], [], [])) (by kernel_rfl) rfl (by kernel_rfl)) ?_
  intro W base args ds gs before hval hW _ hk _
  exact contract H enc W base args ds gs before hval hW hk

theorem over : Rows.frameGetsUptoRow.holds Try.pinned (Rows.OpenSpec.upto Rows.frameGetsSpec) :=
  OpenClaim.holds_of_cond 3 Try.f3 rfl rfl rfl rfl rfl rfl rfl ⟨rfl, rfl, rfl, rfl, rfl⟩ rfl rfl rfl rfl rfl (by kernel_rfl) Try.func3 (by kernel_rfl)
    (of_decide_eq_true (by kernel_rfl)) (by unfold Func.isWrapper; first | (rw [if_pos (by decide +kernel)]; kernel_rfl) | (rw [if_neg (by decide +kernel)]; exact ⟨rfl, rfl⟩))
    (fun os started H enc _ F => lifted os started H enc F)

end Go.Proofs.Ythigpdalmdmebaa.rowGets
namespace Go.Proofs.Ythigpdalmdmebaa
theorem frameGets_upto : Rows.FrameGetsUptoSaid := rowGets.over
end Go.Proofs.Ythigpdalmdmebaa
