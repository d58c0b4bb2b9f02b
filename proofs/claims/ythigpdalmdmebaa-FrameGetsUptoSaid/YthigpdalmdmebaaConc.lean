/- slices.Clone, slices.Grow, slices.Concat and the law's own: each answers a row of the call's own that holds the bytes. -/
import Derived.Test.YthigpdalmdmebaaLow
import Derived.Laws.AppendOwnNone
import Derived.Lib.AppendZeros
import Derived.Laws.Cover3
import Derived.Laws.StructEq
namespace Go.Proofs.Ythigpdalmdmebaa
open Go Go.RowKit

theorem add_form (b off j : Nat) : (⟨b, off, none⟩ : Addr).add j = ⟨b, off + j, none⟩ := by
  unfold Addr.add; split <;> simp_all
theorem byteV_one (zs : List UInt8) : ∀ u ∈ zs.map byteV, u.oneCell' = true := by
  intro u hu
  obtain ⟨x, _, rfl⟩ := List.mem_map.1 hu
  rfl
theorem RB.keep {w w' : World} {A : Option Addr} {zs : List UInt8} (h : RB w A zs) (hs : w.heap.size ≤ w'.heap.size) (hk : ∀ p : Addr, p.block < w.heap.size → w'.cell? p = w.cell? p) : RB w' A zs := by
  intro h0
  obtain ⟨b, off, rfl, hb, hc⟩ := h h0
  exact ⟨b, off, rfl, by omega, fun j hj => (hk _ hb).trans (hc j hj)⟩
theorem RB.below {w w' : World} {A : Option Addr} {zs : List UInt8} (h : RB w A zs) (hb : Below w.heap.size w w') : RB w' A zs :=
  h.keep hb.size (fun _ hp => hb.cell hp)
theorem RB.of_own {w : World} {base : Nat} {A : Option Addr} {c : Nat} {zs : List UInt8} (h : w.ownsRow base 5 1 (.slice A zs.length c) zs.length (zs.map byteV)) : RB w A zs := by
  intro h0
  obtain ⟨g, cap, hv, _, hlt⟩ := h.form h0
  injection hv with hA
  subst hA
  refine ⟨g, 0, rfl, hlt, fun j hj => ?_⟩
  have := h.cells (g := g) rfl j (byteV zs[j]) (by simp [List.getElem?_eq_getElem hj])
  rw [add_form] at this
  exact this
/-- append of bytes that lie anywhere, nil or empty too, onto a row of the call's own -/
theorem wpList_append_rb {w : World} {ops : Array Oper} {rest : List Oper} {o : Oper} {a : Act} {Q : Exit → Act → World → Prop} (hgd : o.guard = none) (s x : Operand)
    (ho : o.op = .call { callee := .builtin .append, args := #[s, x], argTypes := #[22, 22] })
    (base : Nat) (v : Value) (xs : List UInt8) (hs : a.eval s = v) (hown : w.ownsRow base 5 1 v xs.length (xs.map byteV))
    (A : Option Addr) (c : Nat) (zs : List UInt8) (hx : a.eval x = .slice A zs.length c) (hr : RB w A zs) (hc : A = none → c = 0)
    (hbytes : xs.length + zs.length ≤ 140737488355328) (hbase : base ≤ w.heap.size)
    (h : ∀ v' w', w'.ownsRow base 5 1 v' (xs ++ zs).length ((xs ++ zs).map byteV) → w.grownBy w' v.ownBlock → (v' = .slice none 0 0 ↔ v = .slice none 0 0 ∧ zs.length = 0) → wpList Try.prog ops Q rest (a.put o.dst v') w') : wpList Try.prog ops Q (o :: rest) a w := by
  obtain ⟨i0, hi, hz0, hz1, hz2⟩ := info_parts Try.info5
  rcases A with _ | ad
  · have h0 : zs = [] := by
      rcases Nat.eq_zero_or_pos zs.length with h0 | h0
      · exact List.eq_nil_of_length_eq_zero h0
      · obtain ⟨b, off, hh, _⟩ := hr h0; cases hh
    subst h0
    have := hc rfl
    subst this
    exact wpList_append_own_none hgd s x 22 ho base 5 i0 1 Try.underlying22 hi v xs.length _ hs hown hx (h v w (by simpa using hown) (World.grownBy.refl w _) (by simp))
  · refine wpList_append_own w hgd s x 22 ho base 5 i0 (.int .u8 0) 1 1 Try.underlying22 hi hz0 hz1 hz2 rfl (by decide) v xs.length _ hs hown ad zs.length c (zs.map byteV) hx (by simp) ?_ (byteV_one zs) (by simp only [maxLen]; omega) (by omega) hbase ?_
    · intro j u hu
      have hj : j < zs.length := by
        have := (List.getElem?_eq_some_iff.1 hu).1
        simpa using this
      obtain ⟨b, off, hA, hb, hcell⟩ := hr (by omega)
      injection hA with hA
      subst hA
      rw [add_form, hcell j hj]
      rw [List.getElem?_map, List.getElem?_eq_getElem hj] at hu
      exact hu
    · intro v' w' h1 h2 h3
      exact h v' w' (by simpa using h1) h2 h3

theorem own_any (A : Option Addr) (cap : Nat) (zs : List UInt8) (w : World) (hbig : zs.length ≤ 140737488351232) (hc : RB w A zs) (hn : A = none → cap = 0) :
    Calls Try.prog 7 #[.slice A zs.length cap] w fun e w' => ∃ v, e = .returned v ∧ w'.ownsRow w.heap.size 5 1 v zs.length (zs.map byteV) ∧ Below w.heap.size w w' := by
  have Hc := Lib.hid hc
  clear hc
  have Hn := Lib.hid hn
  clear hn
  have Ho : Hid ((w.alloc (.cells #[] 5)).ownsRow w.heap.size 5 1 (.slice (some ⟨w.heap.size, 0, none⟩) 0 0) ([] : List UInt8).length (([] : List UInt8).map byteV)) :=
    World.ownsRow_made w #[] 0 (Nat.le_refl _) (by simp [maxLen]) (by simp)
  go_enter Try.func7, Try.ntmps7
  go_wp2_with (at_builtin; refine wpList_append_rb rfl _ _ rfl w.heap.size _ [] rfl Ho.out A cap zs rfl (Hc.out.below ((Below.refl _ _).alloc (Nat.le_refl _) _)) Hn.out (by simp; omega) (by simp) ?_)
  intro v' w1 hown' hgrow _
  have Hown' := Lib.hid hown'
  have Hgrow := Lib.hid hgrow
  clear hown' hgrow
  go_wp2
  go_ret
  refine ⟨v', rfl, by simpa using Hown'.out, ?_⟩
  exact ((Below.refl _ _).alloc (Nat.le_refl _) _).grown Hgrow.out (by simp) (fun k hk => (Ho.out.lt k hk).1)

theorem eql_nil22 (a : Option Addr) (l c : Nat) (w : World) : (binOp .eql 22 (.slice a l c) (.slice none 0 0)).run Try.prog w = .ok (.bool a.isNone) w := by
  simp only [binOp]
  simp [run_equal_slice_nil w 22 5 a l c Try.underlying22]
theorem clone_any (ad : Addr) (cap : Nat) (zs : List UInt8) (w : World) (hbig : zs.length ≤ 140737488351232) (hc : RB w (some ad) zs) :
    Calls Try.prog 20 #[.slice (some ad) zs.length cap] w fun e w' => ∃ v, e = .returned v ∧ w'.ownsRow w.heap.size 5 1 v zs.length (zs.map byteV) ∧ Below w.heap.size w w' ∧ v ≠ .slice none 0 0 := by
  have Hc := Lib.hid hc
  clear hc
  have Ho : Hid ((w.alloc (.cells #[] 5)).ownsRow w.heap.size 5 1 (.slice (some ⟨w.heap.size, 0, none⟩) 0 0) ([] : List UInt8).length (([] : List UInt8).map byteV)) :=
    World.ownsRow_made w #[] 0 (Nat.le_refl _) (by simp [maxLen]) (by simp)
  have heq := eql_nil22 (some ad) zs.length cap
  go_enter Try.func20, Try.ntmps20
  go_wp2_with (at_builtin; refine wpList_append_rb rfl _ _ rfl w.heap.size _ [] rfl Ho.out (some ad) cap zs rfl (Hc.out.below ((Below.refl _ _).alloc (Nat.le_refl _) _)) (fun h => by cases h) (by simp; omega) (by simp) ?_)
  intro v' w1 hown' hgrow hnil
  have Hown' := Lib.hid hown'
  have Hgrow := Lib.hid hgrow
  have Hnil := Lib.hid hnil
  clear hown' hgrow hnil
  go_wp2
  go_ret
  refine ⟨v', rfl, by simpa using Hown'.out, ?_, ?_⟩
  · exact ((Below.refl _ _).alloc (Nat.le_refl _) _).grown Hgrow.out (by simp) (fun k hk => (Ho.out.lt k hk).1)
  · exact fun hv => Hnil.out hv

/-- slices.Grow of nothing by n bytes -/
theorem grow_any (n : Nat) (w : World) (h0 : 0 < n) (hn : n ≤ 140737488355328) :
    Calls Try.prog 35 #[.slice none 0 0, .int .i64 (n : Int)] w fun e w' => ∃ g c, e = .returned (.slice (some ⟨g, 0, none⟩) 0 c) ∧ w'.ownsRow w.heap.size 5 1 (.slice (some ⟨g, 0, none⟩) 0 c) 0 [] ∧ Below w.heap.size w w' := by
  obtain ⟨i0, hi, hz0, hz1, hz2⟩ := info_parts Try.info5
  have hrun := fun ty => Lib.run_append_nil_zeros (P := Try.prog) w 22 3 ty 5 i0 (.int .u8 0) .i64 .i64 Try.underlying22 Try.underlying3 hi hz0 n h0 (by omega) (by omega) (by rw [hz2]; omega)
  have Hrun := Lib.hid hrun
  clear hrun
  have hcap : n ≤ grownCap w n 0 5 := grownCap_ge w n 0 5
  have hcapm : grownCap w n 0 5 ≤ maxLen := grownCap_le_maxLen w n 0 5 (by simp only [maxLen]; omega)
  go_enter Try.func35, Try.ntmps35
  go_wp2_with (at_builtin; refine Lib.wpList_append_run _ rfl _ _ _ _ rfl _ _ rfl rfl _ _ (Hrun.out _) ?_)
  go_ret
  refine ⟨w.heap.size, grownCap w n 0 5, rfl, ?_, ?_⟩
  · exact (World.ownsRow_made w _ (grownCap w n 0 5) (Nat.le_refl _) hcapm (by simp [Builtin.zeroCells]; omega)).drew
  · exact ((Below.refl _ _).alloc (Nat.le_refl _) _).drew

/-- a slice of bytes as it lies: its address, its capacity, its bytes -/
abbrev SB := Option Addr × Nat × List UInt8
def SB.val (s : SB) : Value := .slice s.1 s.2.2.length s.2.1
def flatS (ss : List SB) : List UInt8 := (ss.map fun s => s.2.2).flatten
theorem flatS_take (ss : List SB) (k : Nat) (h : k < ss.length) : flatS (ss.take (k + 1)) = flatS (ss.take k) ++ ss[k].2.2 := by
  unfold flatS
  rw [List.take_add_one, List.map_append, List.flatten_append]
  simp [List.getElem?_eq_getElem h]
theorem flatS_take_le (ss : List SB) (k : Nat) : (flatS (ss.take k)).length ≤ (flatS ss).length := by
  have h : flatS ss = flatS (ss.take k) ++ flatS (ss.drop k) := by
    unfold flatS
    rw [← List.flatten_append, ← List.map_append, List.take_append_drop]
  rw [h, List.length_append]
  omega
structure RBs (w : World) (b off : Nat) (ss : List SB) : Prop where
  lt : b < w.heap.size
  cell : ∀ j (h : j < ss.length), w.cell? ⟨b, off + j, none⟩ = some ss[j].val
  each : ∀ j (h : j < ss.length), RB w ss[j].1 ss[j].2.2 ∧ (ss[j].1 = none → ss[j].2.1 = 0)
theorem RBs.below {w w' : World} {b off : Nat} {ss : List SB} (h : RBs w b off ss) (hb : Below w.heap.size w w') : RBs w' b off ss :=
  ⟨Nat.lt_of_lt_of_le h.lt hb.size, fun j hj => (hb.cell h.lt).trans (h.cell j hj), fun j hj => ⟨(h.each j hj).1.below hb, (h.each j hj).2⟩⟩

set_option maxRecDepth 100000 in
theorem concat_any (b off cap : Nat) (ss : List SB) (w : World) (hl : ss.length ≤ 1000) (h0 : 0 < (flatS ss).length) (hbig : (flatS ss).length ≤ 140737488351232) (hc : RBs w b off ss) :
    Calls Try.prog 25 #[.slice (some ⟨b, off, none⟩) ss.length cap] w fun e w' => ∃ v, e = .returned v ∧ w'.ownsRow w.heap.size 5 1 v (flatS ss).length ((flatS ss).map byteV) ∧ Below w.heap.size w w' := by
  have Hc := Lib.hid hc
  clear hc
  go_enter Try.func25, Try.ntmps25
  go_wp2_with fail
  go_loop [3, 11] (fun n i => ∃ (k m : Nat), k ≤ ss.length ∧ i = .int .i64 k ∧ m = (flatS (ss.take k)).length ∧ n = .int .i64 m) (fun _ i => ss.length - (intOf i).toNat)
  case atStart => exact ⟨0, 0, by omega, rfl, rfl, rfl⟩
  case round =>
    obtain ⟨k, m, hk, rfl, hm, rfl⟩ := hrel
    have Hm := Lib.hid hm
    have hm' : m ≤ (flatS ss).length := by rw [hm]; exact flatS_take_le _ _
    clear hm
    by_cases hlt : k < ss.length
    · have hcell := Hc.out.cell k hlt
      have ht := congrArg List.length (flatS_take ss k hlt)
      rw [List.length_append, ← Hm.out] at ht
      have ht' : m + ss[k].2.2.length ≤ (flatS ss).length := by rw [← ht]; exact flatS_take_le _ _
      have Ht := Lib.hid ht
      clear ht
      unfold SB.val at hcell
      go_wp2_with fail
      go_round
      case rel => exact ⟨k + 1, m + ss[k].2.2.length, by omega, by go_num, by rw [Ht.out], by go_num⟩
      case measure => simp [intOf]; omega
    · have hk' : k = ss.length := by omega
      subst hk'
      have hm2 := Hm.out
      rw [List.take_length] at hm2
      subst hm2
      go_wp2_with fail
      refine (grow_any _ w h0 (by omega)).mono ?_
      rintro e w1 ⟨g, c, rfl, hown, hb⟩
      have Hown := Lib.hid hown
      have Hb := Lib.hid hb
      clear hown hb
      go_wp2_with fail
      go_loopw [6, 27] (fun v i wr => ∃ (k : Nat), k ≤ ss.length ∧ i = .int .i64 k ∧ wr.ownsRow w.heap.size 5 1 v (flatS (ss.take k)).length ((flatS (ss.take k)).map byteV) ∧ Below w.heap.size w wr) (fun _ i _ => ss.length - (intOf i).toNat)
      case atStart => exact ⟨0, by omega, rfl, Hown.out, Hb.out⟩
      case round =>
        obtain ⟨k, hk, rfl, hown', hb'⟩ := hrel
        have Hown' := Lib.hid hown'
        have Hb' := Lib.hid hb'
        clear hown' hb'
        by_cases hlt : k < ss.length
        · have hcr := Hc.out.below Hb'.out
          have Hcr := Lib.hid hcr
          have hcell := hcr.cell k hlt
          have Ht := Lib.hid (flatS_take ss k hlt)
          have ht' : (flatS (ss.take k)).length + ss[k].2.2.length ≤ (flatS ss).length := by rw [← List.length_append, ← Ht.out]; exact flatS_take_le _ _
          unfold SB.val at hcell
          clear hcr
          go_wp2_with (at_builtin; refine wpList_append_rb rfl _ _ rfl w.heap.size _ _ rfl Hown'.out ss[k].1 ss[k].2.1 ss[k].2.2 rfl (Hcr.out.each k hlt).1 (Hcr.out.each k hlt).2 (by omega) Hb'.out.size ?_)
          intro v' w2 h1 h2 _
          have H1 := Lib.hid h1
          have H2 := Lib.hid h2
          clear h1 h2
          go_wp2_with fail
          go_roundw
          case rel => exact ⟨k + 1, by omega, by go_num, by rw [Ht.out, List.length_append, List.map_append]; exact H1.out, Hb'.out.grown H2.out Hb'.out.size (fun k hk => (Hown'.out.lt k hk).1)⟩
          case measure => simp [intOf]; omega
        · have hk' : k = ss.length := by omega
          subst hk'
          go_wp2_with fail
          go_ret
          refine ⟨_, rfl, ?_, Hb'.out⟩
          have := Hown'.out
          rw [List.take_length] at this
          exact this
end Go.Proofs.Ythigpdalmdmebaa
