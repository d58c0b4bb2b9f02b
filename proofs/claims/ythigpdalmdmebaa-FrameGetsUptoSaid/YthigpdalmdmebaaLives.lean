/- The law's look at the document's examples answers true. -/
import Derived.Test.YthigpdalmdmebaaAll
namespace Go.Proofs.Ythigpdalmdmebaa
open Go Go.RowKit

def fr1 : List UInt8 := frameF [97]
theorem fr1_0 (h : 0 < fr1.length) : fr1[0] = 2 := by
  have e : fr1[0]? = some 2 := by decide +kernel
  rw [List.getElem?_eq_getElem h] at e
  injection e
theorem fr1_1 (h : 1 < fr1.length) : fr1[1] = 97 := by
  have e : fr1[1]? = some 97 := by decide +kernel
  rw [List.getElem?_eq_getElem h] at e
  injection e
theorem fr1_get : getN fr1 0 = ([97], 6, 0) := by decide +kernel
theorem fr1_all : allL (fr1 ++ [255]) ((fr1 ++ [255]).length + 1) 0 = [([97], 6)] := by decide +kernel
theorem sum_9 : (moreF 0#32 [49, 50, 51, 52, 53, 54, 55, 56, 57]).toNat = 3421780262 := by decide +kernel

theorem conv_same (w : World) (cs : Array Value) (n c : Nat) : (convert 22 22 (.slice (some ⟨w.heap.size, 0, none⟩) n c)).run Try.prog (w.alloc (.cells cs 5)) = .ok (.slice (some ⟨w.heap.size, 0, none⟩) n c) (w.alloc (.cells cs 5 (cs.size, cs.size + 1))) := by
  have hh : (w.alloc (.cells cs 5)).heap[w.heap.size]? = some (.cells cs 5 (0, 0)) := heap_alloc_new w _
  have hs : (w.alloc (.cells cs 5)).shape? w.heap.size = some (5, cs.size) := by
    unfold World.shape?
    rw [hh]
  have hf : (w.alloc (.cells cs 5)).freeze { block := w.heap.size, off := cs.size } 1 = w.alloc (.cells cs 5 (cs.size, cs.size + 1)) := by
    unfold World.freeze
    rw [if_neg (by decide)]
    show ({ w with heap := (w.heap.push (.cells cs 5)).modify w.heap.size _ } : World) = { w with heap := w.heap.push _ }
    congr 1
    apply Array.ext_getElem?
    intro i
    rw [Array.getElem?_modify, Array.getElem?_push, Array.getElem?_push]
    by_cases h : i = w.heap.size
    · subst h; simp
    · rw [if_neg (fun e => h e.symm), if_neg h, if_neg h]
  simp [convert, run_underlying Try.underlying22, run_underlying Try.underlying5, markStringish, shape, freeze, Sem.run, hs, hf]

theorem rb_new (w : World) (x : UInt8) : RB (w.alloc (.cells #[.int .u8 (x.toNat : Int)] 5)) (some ⟨w.heap.size, 0, none⟩) [x] := by
  intro _
  refine ⟨w.heap.size, 0, rfl, by simp, fun j hj => ?_⟩
  have hj0 : j = 0 := by simpa using hj
  subst hj0
  rw [cell_of_row _ _ _ _ _ _ (heap_alloc_new w _)]
  rfl
set_option maxRecDepth 100000 in
theorem lives_any (w : World) : Calls Try.prog 11 #[] w fun e w' => e = .returned (.bool true) ∧ Below w.heap.size w w' := by
  have hcv := conv_same w #[.int .u8 97] 1 1
  go_enter Try.func11, Try.ntmps11
  have hb0 : Below w.heap.size w (w.alloc (.cells #[.int .u8 97] 5 (1, 2))) := (Below.refl _ _).alloc (Nat.le_refl _) _
  have hr0 : RB (w.alloc (.cells #[.int .u8 97] 5 (1, 2))) (some ⟨w.heap.size, 0, none⟩) [97] := by
    intro _
    refine ⟨w.heap.size, 0, rfl, by simp, fun j hj => ?_⟩
    have hj0 : j = 0 := by simpa using hj
    subst hj0
    rw [cell_of_row _ _ _ _ _ _ (heap_alloc_new w _)]
    rfl
  have Hb0 := Lib.hid hb0
  have Hr0 := Lib.hid hr0
  clear hb0 hr0
  go_wp2_with fail
  refine (put_any none (some ⟨w.heap.size, 0, none⟩) 0 1 [] [97] _ (by simp) (by simp) (fun h => by cases h) Hr0.out (fun _ => rfl) (fun h => by cases h)).mono ?_
  rintro e w1 ⟨v, rfl, hown, hb1⟩
  rw [List.nil_append, show frameF [97] = fr1 from rfl] at hown
  have hfl : fr1.length = 6 := by decide +kernel
  obtain ⟨g, c, rfl, hg, hglt⟩ := hown.form (by omega)
  have hr1 := RB.of_own hown
  rw [hfl] at hown ⊢
  have Hfl := Lib.hid hfl
  clear hfl
  have hw1 := Hb0.out.trans (hb1.mono Hb0.out.size)
  have Hown := Lib.hid hown
  have Hr1 := Lib.hid hr1
  have Hw1 := Lib.hid hw1
  clear hown hr1 hb1 hw1 hcv
  have h6c : 6 ≤ c := by
    rcases Hown.out.2 with ⟨e, _⟩ | ⟨_, _, _, e, _, _, hc, _⟩
    · cases e
    · injection e with _ _ e; omega
  go_wp2_with fail
  have hget := get_any g 0 c fr1 0 w1 (by omega) (by rw [Hfl.out]; omega) (by omega) (by rw [Hfl.out]; omega) Hr1.out
  rw [Hfl.out, fr1_get] at hget
  refine hget.mono ?_
  rintro e w2 ⟨v, rfl, hown2, hb2⟩
  clear hget
  obtain ⟨V, vc, rfl⟩ := own_form hown2
  have hr2 := RB.of_own hown2
  have Hown2 := Lib.hid hown2
  have Hr2 := Lib.hid hr2
  have Hb2 := Lib.hid hb2
  clear hown2 hr2 hb2
  have Ho3 : Hid ((w2.alloc (.cells #[] 5)).ownsRow w2.heap.size 5 1 (.slice (some ⟨w2.heap.size, 0, none⟩) 0 0) ([] : List UInt8).length (([] : List UInt8).map byteV)) :=
    World.ownsRow_made w2 #[] 0 (Nat.le_refl _) (by simp [maxLen]) (by simp)
  have ha3 : Below w2.heap.size w2 (w2.alloc (.cells #[] 5)) := (Below.refl _ _).alloc (Nat.le_refl _) _
  go_wp2_with (at_builtin; refine wpList_append_rb rfl (.tmp 24) (.tmp 25) rfl w2.heap.size _ [] rfl Ho3.out (some ⟨g, 0, none⟩) c fr1 (by rw [Hfl.out]; rfl) ((Hr1.out.below Hb2.out).below ((Below.refl _ _).alloc (Nat.le_refl _) _)) (fun h => by cases h) (by rw [Hfl.out]; simp) (by simp) ?_)
  intro v3 w3 hown3 hgrow3 _
  obtain ⟨V3, c3, rfl⟩ := own_form hown3
  rw [Hfl.out]
  have hb3 : Below w2.heap.size w2 w3 := ha3.grown hgrow3 (by simp) (fun k hk => (Ho3.out.lt k hk).1)
  have Hown3 := Lib.hid hown3
  have Hb3 := Lib.hid hb3
  clear hown3 hgrow3 hb3 ha3
  have hsz3 : w2.heap.size ≤ w3.heap.size := Hb3.out.size
  go_wp2_with (at_builtin; refine wpList_append_rb rfl (.tmp 26) (.tmp 27) rfl w2.heap.size _ fr1 (by rw [Hfl.out]; rfl) (Hown3.out.alloc _) (some ⟨w3.heap.size, 0, none⟩) 1 [255] rfl (rb_new w3 255) (fun h => by cases h) (by rw [Hfl.out]; simp) (by simp; omega) ?_)
  intro v4 w4 hown4 hgrow4 _
  obtain ⟨V4, c4, rfl⟩ := own_form hown4
  have hl7 : (fr1 ++ [255]).length = 7 := by rw [List.length_append, Hfl.out]; rfl
  have hl7' : fr1.length + 1 = 7 := by rw [Hfl.out]
  rw [hl7'] at hown4 ⊢
  have hr4 : RB w4 V4 (fr1 ++ [255]) := by
    refine RB.of_own (base := w2.heap.size) (c := c4) ?_
    rw [hl7, List.map_append]
    exact hown4
  have h7c : 7 ≤ c4 := by
    rcases hown4.2 with ⟨e, _⟩ | ⟨_, _, _, e, _, _, hc, _⟩
    · injection e with _ e _; omega
    · injection e with _ _ e; omega
  have hb4 : Below w2.heap.size w2 w4 := (Hb3.out.alloc hsz3 _).grown hgrow4 (by simp; omega) (fun k hk => (Hown3.out.lt k hk).1)
  have Hl7 := Lib.hid hl7
  have Hr4 := Lib.hid hr4
  have Hb4 := Lib.hid hb4
  clear hown4 hgrow4 hr4 hb4 hl7 hl7'
  go_wp2_with fail
  have hall := all_any V4 c4 (fr1 ++ [255]) w4 (by rw [Hl7.out]; exact h7c) (by rw [Hl7.out]; omega) (by rw [Hl7.out]; omega) Hr4.out
  rw [fr1_all, Hl7.out] at hall
  refine hall.mono ?_
  rintro e w5 ⟨v5, xs, rfl, hxs, hown5, hel5, hb5⟩
  clear hall
  obtain ⟨x, rfl⟩ : ∃ x, xs = [x] := by
    have h1 : xs.length = 1 := by have := congrArg List.length hxs; simpa using this
    exact List.length_eq_one_iff.1 h1
  obtain ⟨xv, xz, xn⟩ := x
  obtain ⟨rfl, rfl⟩ : xz = [97] ∧ xn = 6 := by
    simp only [List.map_cons, List.map_nil] at hxs
    injection hxs with h _
    injection h with h1 h2
    exact ⟨h1, h2⟩
  obtain ⟨V5, c5, rfl⟩ := own_form hown5
  have hlast : lastN [((xv, [97], 6) : El)] = 6 := rfl
  rw [hlast]
  have hW5 : Below w1.heap.size w1 w5 := (Hb2.out.trans (Hb4.out.mono Hb2.out.size)).trans (hb5.mono (Nat.le_trans Hb2.out.size Hb4.out.size))
  have hr15 := Hr1.out.below hW5
  have hc0 : w5.cell? ⟨g, 0, none⟩ = some (.int .u8 2) := by
    obtain ⟨b', o', e1, _, hc⟩ := hr15 (by rw [Hfl.out]; omega)
    injection e1 with e1; injection e1 with e1 e2 _
    subst e1; subst e2
    have h := hc 0 (by rw [Hfl.out]; omega)
    rw [fr1_0] at h
    exact h
  have hc1 : w5.cell? ⟨g, 1, none⟩ = some (.int .u8 97) := by
    obtain ⟨b', o', e1, _, hc⟩ := hr15 (by rw [Hfl.out]; omega)
    injection e1 with e1; injection e1 with e1 e2 _
    subst e1; subst e2
    have h := hc 1 (by rw [Hfl.out]; omega)
    rw [fr1_1] at h
    exact h
  have hcv5 : (convert 22 9 (.slice V 1 vc)).run Try.prog w5 = .ok (.string ⟨#[97]⟩) w5 := conv_bytes w5 V vc [97] ((Hr2.out.below (Hb4.out)).below hb5)
  have hcvB : ∀ W : World, (convert 22 22 (.slice (some ⟨W.heap.size, 0, none⟩) 9 9)).run Try.prog (W.alloc (.cells #[.int .u8 49, .int .u8 50, .int .u8 51, .int .u8 52, .int .u8 53, .int .u8 54, .int .u8 55, .int .u8 56, .int .u8 57] 5)) = .ok (.slice (some ⟨W.heap.size, 0, none⟩) 9 9) (W.alloc (.cells #[.int .u8 49, .int .u8 50, .int .u8 51, .int .u8 52, .int .u8 53, .int .u8 54, .int .u8 55, .int .u8 56, .int .u8 57] 5 (9, 10))) := fun W => conv_same W _ 9 9
  have HW5 := Lib.hid hW5
  have Hb5 := Lib.hid hb5
  have Hel5 := Lib.hid hel5
  have Hown5 := Lib.hid hown5
  clear hW5 hb5 hel5 hown5 hxs hlast hr15
  go_wp2_with fail
  have hr9 : RB (w5.alloc (.cells #[.int .u8 49, .int .u8 50, .int .u8 51, .int .u8 52, .int .u8 53, .int .u8 54, .int .u8 55, .int .u8 56, .int .u8 57] 5 (9, 10))) (some ⟨w5.heap.size, 0, none⟩) [49, 50, 51, 52, 53, 54, 55, 56, 57] := by
    intro _
    refine ⟨w5.heap.size, 0, rfl, by simp, fun j hj => ?_⟩
    have hj9 : j < 9 := hj
    rw [cell_of_row _ _ _ _ _ _ (heap_alloc_new w5 _)]
    rcases (show j = 0 ∨ j = 1 ∨ j = 2 ∨ j = 3 ∨ j = 4 ∨ j = 5 ∨ j = 6 ∨ j = 7 ∨ j = 8 by omega) with rfl | rfl | rfl | rfl | rfl | rfl | rfl | rfl | rfl <;> rfl
  refine (sum_any (some ⟨w5.heap.size, 0, none⟩) 9 [49, 50, 51, 52, 53, 54, 55, 56, 57] _ (by simp) hr9).mono ?_
  rintro e w' ⟨rfl, rfl⟩
  rw [sum_9]
  clear hr9 hcvB hcv5
  go_wp2_with fail
  go_ret
  refine ⟨rfl, ?_⟩
  exact (Hw1.out.trans (HW5.out.mono Hw1.out.size)).trans (((Below.refl _ w5).alloc (Nat.le_refl _) _).mono (Nat.le_trans Hw1.out.size HW5.out.size))
end Go.Proofs.Ythigpdalmdmebaa
