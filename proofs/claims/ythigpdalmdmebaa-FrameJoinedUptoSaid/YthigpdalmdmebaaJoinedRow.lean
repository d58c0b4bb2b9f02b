/-
  THE ROW 'FrameJoinedUptoSaid': the walk 'joined_any' and the bound, joined. By an AI agent. No macro, syntax, notation, axiom, sorry.
-/
import Derived.Test.YthigpdalmdmebaaRows
import Derived.Test.YthigpdalmdmebaaBulk
import Derived.Test.YthigpdalmdmebaaJoined
import Derived.WalkKit
import Derived.ProofKit
import Derived.OpenShut
import Derived.JoinedCond
namespace Go.Proofs.Ythigpdalmdmebaa.rowJoined
open Go.ChangeShapes Go.WideShapes Go.ChangeAt Go.RowKit

theorem own : ownKnob Try.prog.godebug = none := by kernel_rfl

theorem contract (H : Type) (enc : TypeId × Value → H) (W : World) (base : Nat) (args : Array Value) (ds gs : List (DataW H)) (before : List MemPlace)
    (hval : ∀ (j : Nat) t v, Try.f5.params[j]? = some t → args[j]? = some v → Value.okWide Try.prog W .any base t v)
    (hW : DataW.Whole enc Try.prog Try.f5.params.toList Rows.frameJoinedSpec.vars false W args.toList ds gs before) (hk : Rows.uptoSmall H (ds ++ gs) = true) :
    Calls Try.prog 5 args W fun e W' => ∃ v, e = .returned v ∧ Rows.frameJoinedSpec.post enc Try.prog Try.f5 false true false false W args v W' := by
  have hW' := hW
  have hold := hW.lt
  obtain ⟨p, q, hA0, hV, rfl, hfz, hnd⟩ := hW
  have hA : DataW.TrodAll enc Try.prog W 0 (fun _ => true) true Try.f5.params.toList args.toList ds p := hA0
  rw [Try.params5] at hA hval
  obtain ⟨v0, vs0, d0, ds0, p0, q0, hargs, rfl, rfl, h0, r0⟩ := trodAll_cons hA
  obtain ⟨v1, vs1, d1, ds1, p1, q1, rfl, rfl, rfl, h1, r1⟩ := trodAll_cons r0
  obtain ⟨v2, vs2, d2, ds2, p2, q2, rfl, rfl, rfl, h2, r2⟩ := trodAll_cons r1
  obtain ⟨rfl, rfl, rfl⟩ := trodAll_nil r2
  obtain rfl : args = #[v0, v1, v2] := by cases args; simp_all
  obtain ⟨rfl, rfl⟩ := trodVars_none hV
  obtain ⟨A, ca, xa, rfl, rA, lA, mA, nA, bA, cA, -, backA⟩ := open_bytes (hval 0 22 _ rfl rfl) h0
  obtain ⟨B, cb, xb, rfl, rB, lB, mB, nB, bB, cB, -, backB⟩ := open_bytes (hval 1 22 _ rfl rfl) h1
  obtain ⟨C, cc, xc, rfl, rC, lC, mC, nC, bC, cC, -, backC⟩ := open_bytes (hval 2 22 _ rfl rfl) h2
  have hs : Rows.uptoBulkAll [d0, d1, d2] ≤ 1048576 := by
    have := of_decide_eq_true hk
    simpa only [List.append_nil, List.cons_append, List.nil_append] using this
  simp only [Rows.uptoBulkAll] at hs
  clear hA0
  refine (joined_any A B C ca cb cc xa xb xc W (by omega) (by omega) (by omega) lA lB lC rA rB rC nA nB).mono fun e W' ⟨he, hg⟩ => ?_
  subst he
  refine ⟨_, rfl, [d0, d1, d2], [], _, [], p0 ++ (p1 ++ (p2 ++ [])), [], hW', trodAll_mk1 (shut_bool Try.underlying4 _), ?_, rfl, hg.frame _, fun h => by cases h⟩
  have hsp : ∀ q ∈ p0 ++ (p1 ++ (p2 ++ [])) ++ [], (fun b => decide (b < W.heap.size)) q.block = true := fun q hq => by simpa using hold q hq
  exact trodAll_cons_mk (backA W' hg _ (fun q hq => hsp q (by simp [hq]))) (trodAll_cons_mk (backB W' hg _ (fun q hq => hsp q (by simp [hq]))) (trodAll_cons_mk (backC W' hg _ (fun q hq => hsp q (by simp [hq]))) trodAll_mk0))

set_option maxRecDepth 100000 in
theorem lifted (os : Os) (started : os.Started) (H : Type) (enc : TypeId × Value → H) (F : Stop.Interp) :
    ReturnsInHanded {} Try.checked os 5 .any ((Rows.OpenSpec.upto Rows.frameJoinedSpec).pre6 enc Try.prog Try.f5 Rows.frameJoinedUptoRow.domain false) (((Rows.OpenSpec.upto Rows.frameJoinedSpec).at F).post enc Try.prog Try.f5 false true false false) := by
  refine returnsInHanded_of_cond (C := Try.checked) (s := Rows.OpenSpec.upto Rows.frameJoinedSpec) (k := Rows.uptoSmall) rfl own started (by kernel_rfl) Try.func5
    (OpenSpec.witness (enc := enc) (C := Try.checked) (s := Rows.OpenSpec.upto Rows.frameJoinedSpec) (k := Rows.uptoSmall) rfl false ⟨#[], #[.slice none 0 0, .slice none 0 0, .slice none 0 0], []⟩ 8 (by kernel_rfl) (by kernel_rfl) (by kernel_rfl)
      (x := ([.nil, .nil, .nil], [], [])) (by kernel_rfl) rfl (by kernel_rfl)) ?_
  intro W base args ds gs before hval hW _ hk _
  exact contract H enc W base args ds gs before hval hW hk

theorem over : Rows.frameJoinedUptoRow.holds Try.pinned (Rows.OpenSpec.upto Rows.frameJoinedSpec) :=
  OpenClaim.holds_of_cond 5 Try.f5 rfl rfl rfl rfl rfl rfl rfl ⟨rfl, rfl, rfl, rfl, rfl⟩ rfl rfl rfl rfl rfl (by kernel_rfl) Try.func5 (by kernel_rfl)
    (of_decide_eq_true (by kernel_rfl)) (by unfold Func.isWrapper; first | (rw [if_pos (by decide +kernel)]; kernel_rfl) | (rw [if_neg (by decide +kernel)]; exact ⟨rfl, rfl⟩))
    (fun os started H enc _ F => lifted os started H enc F)

end Go.Proofs.Ythigpdalmdmebaa.rowJoined
namespace Go.Proofs.Ythigpdalmdmebaa
theorem frameJoined_upto : Rows.FrameJoinedUptoSaid := rowJoined.over
end Go.Proofs.Ythigpdalmdmebaa
