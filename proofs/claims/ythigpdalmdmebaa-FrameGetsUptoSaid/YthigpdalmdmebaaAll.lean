/- frame.All answers what is in all frames from the front on, and where they end. -/
import Derived.Test.YthigpdalmdmebaaRng
namespace Go.Proofs.Ythigpdalmdmebaa
open Go Go.RowKit Go.Shelf


/-- what is got from a place on: each with the place behind it -/
def allL (l : List UInt8) : Nat → Nat → List (List UInt8 × Nat)
  | 0, _ => []
  | f + 1, k => if k < l.length then (if (getN l k).2.2 = 0 then ((getN l k).1, (getN l k).2.1) :: allL l f (getN l k).2.1 else []) else []
abbrev El := Value × List UInt8 × Nat
def elE (n0 : Nat) (x : El) (W : World) : Prop := W.ownsRow n0 5 1 x.1 x.2.1.length (x.2.1.map byteV)
def elV (x : El) : Array Value := #[x.1, .int .i64 (x.2.2 : Int)]
def kpA (n0 q : Nat) (A B : World) : Prop := Below n0 A B ∧ ∀ o, A.heap[q]? = some o → B.heap[q]? = some o

theorem RB.belowN {w w' : World} {b off n0 : Nat} {zs : List UInt8} (h : RB w (some ⟨b, off, none⟩) zs) (hb : b < n0) (hw : Below n0 w w') : RB w' (some ⟨b, off, none⟩) zs := by
  intro h0
  obtain ⟨b', off', e, hlt, hc⟩ := h h0
  injection e with e; injection e with e1 e2 _
  subst e1; subst e2
  exact ⟨b, off, rfl, Nat.lt_of_lt_of_le hlt hw.size, fun j hj => (hw.cell (p := ⟨b, off + j, none⟩) hb).trans (hc j hj)⟩
theorem getN_next (l : List UInt8) (k : Nat) (h : (getN l k).2.2 = 0) : k < (getN l k).2.1 ∧ (getN l k).2.1 ≤ l.length := by
  revert h
  unfold getN
  split
  · rename_i h; intro h2; exact absurd h2 h
  · split
    · simp
    · split
      · simp
      · intro _; simp only; omega

theorem frames_seq (n n0 q cap : Nat) (A : Option Addr) (zs : List UInt8) (w0 : World) (hn : 1 ≤ n) (hcap : zs.length ≤ cap) (hbig : zs.length ≤ 140737488351232) (hlen : zs.length ≤ 1048576)
    (hn0 : n0 ≤ w0.heap.size) (hb : ∀ b off, A = some ⟨b, off, none⟩ → 0 < zs.length → b < n0) (hc : RB w0 A zs) (hq : Blk w0 q 22 #[.slice A zs.length cap]) :
    SeqE Fence.wide n Try.prog 33 #[.pointer (some ⟨q, 0, none⟩)] elV (elE n0) (kpA n0 q) (fun xs => xs.map (·.2) = allL zs (zs.length + 1) 0) 1048576 w0 := by
  intro l J W hW hJ hY h0
  have Hc := Lib.hid hc
  have HJ := Lib.hid hJ
  have HY := Lib.hid hY
  have H0 := Lib.hid h0
  have HW := Lib.hid hW
  have Hq := Lib.hid hq
  clear hc hJ hY h0 hW hq
  refine callsIn_of_wp Try.func33 rfl trivial ?_ rfl
  simp only [Try.ntmps33, List.size_toArray, List.length_cons, List.length_nil, Nat.reduceAdd, Nat.reduceSub, Array.replicate_succ, Array.replicate_zero, List.push_toArray, List.append_toArray, List.nil_append, List.cons_append]
  gi_wp2
  gi_loopw [3] (fun at_ wr => ∃ (pre : List El) (k f : Nat), at_ = .int .i64 k ∧ k ≤ zs.length ∧ zs.length - k < f ∧ pre.map (·.2) ++ allL zs f k = allL zs (zs.length + 1) 0 ∧ pre.length ≤ k ∧ J pre wr ∧ Blk wr q 22 #[.slice A zs.length cap] ∧ Below n0 w0 wr)
    (fun at_ _ => zs.length - (intOf at_).toNat)
  case atStart => exact ⟨[], 0, zs.length + 1, rfl, by omega, by omega, rfl, by simp, H0.out, Hq.out.below HW.out Hq.out.lt, HW.out.mono hn0⟩
  case round =>
    obtain ⟨pre, k, f, rfl, hk, hf, hall, hpl, hJp, hqr, hbr⟩ := hrel
    have Hall := Lib.hid hall
    have HJp := Lib.hid hJp
    have Hqr := Lib.hid hqr
    have Hbr := Lib.hid hbr
    clear hall hJp hqr hbr
    by_cases hlt : k < zs.length
    · obtain ⟨b, off, hA, _, _⟩ := Hc.out (by omega)
      subst hA
      have hrb : RB wr (some ⟨b, off, none⟩) zs := Hc.out.belowN (hb b off rfl (by omega)) Hbr.out
      have hq0 : wr.cell? ⟨q, 0, none⟩ = some (.slice (some ⟨b, off, none⟩) zs.length cap) := Hqr.out.cell 0
      have Hrb := Lib.hid hrb
      clear hrb
      gi_wp2_with fail
      refine ⟨trivial, ?_⟩
      refine (callsIn_wide.2 (get_any b off cap zs k wr hk hcap (by omega) hbig Hrb.out)).mono ?_
      rintro e w1 ⟨v, rfl, hown, hb1⟩
      have hgp := getN_next zs k
      obtain ⟨⟨py, nx, er⟩, hG⟩ : ∃ G, getN zs k = G := ⟨_, rfl⟩
      rw [hG] at hown hgp ⊢
      simp only [] at hown hgp ⊢
      have HG := Lib.hid hG
      have Hown := Lib.hid hown
      have Hb1 := Lib.hid hb1
      have Hgp := Lib.hid hgp
      clear hG hown hb1 hgp
      obtain ⟨f, rfl⟩ : ∃ m, f = m + 1 := ⟨f - 1, by omega⟩
      by_cases he : er = 0
      · subst he
        have hE : elE n0 (v, py, nx) w1 := own_base Hown.out (Nat.le_trans hn0 Hbr.out.size)
        have hpn : pre.length < 1048576 := by omega
        obtain ⟨fn, tmps, assign, body, hy, hR⟩ := HY.out pre (v, py, nx) w1 (HJ.out _ _ _ HJp.out Hb1.out) hE hpn
        have HR := Lib.hid hR
        clear hR
        simp only [elV] at hy
        gi_wp2_with fail
        refine HR.out.mono ?_
        rintro e W3 ⟨rfl, hJ3, hk3⟩
        have HJ3 := Lib.hid hJ3
        have Hk3 := Lib.hid hk3
        clear hJ3 hk3
        gi_wp2_with fail
        go_roundw
        case rel =>
          have hgp := Hgp.out trivial
          refine ⟨pre ++ [(v, py, nx)], nx, f, rfl, by omega, by omega, ?_, by simp; omega, HJ3.out, Hk3.out.2 _ (below_heap Hb1.out Hqr.out), Hbr.out.trans ((Hb1.out.mono (Nat.le_trans hn0 Hbr.out.size)).trans Hk3.out.1)⟩
          rw [← Hall.out]
          simp only [allL]
          rw [if_pos hlt, HG.out]
          simp
        case measure =>
          have hgp := Hgp.out trivial
          simp [intOf]; omega
      · have hne : ((er : Int) != 0) = true := by simp; omega
        gi_wp2_with fail
        refine ⟨fun _ h => (by cases h), ?_⟩
        gi_wp2_with fail
        refine bodyPost_ret (results_none rfl _ _ _) rfl ?_
        refine ⟨⟨_, rfl⟩, pre, ?_, HJ.out _ _ _ HJp.out Hb1.out⟩
        rw [← Hall.out]
        simp only [allL]
        rw [if_pos hlt, HG.out, if_neg he]
        simp
    · have hq0 : wr.cell? ⟨q, 0, none⟩ = some (.slice A zs.length cap) := Hqr.out.cell 0
      gi_wp2_with fail
      go_end0
      have hk' : k = zs.length := by omega
      subst hk'
      obtain ⟨f, rfl⟩ : ∃ m, f = m + 1 := ⟨f - 1, by omega⟩
      refine ⟨⟨_, rfl⟩, pre, ?_, HJp.out⟩
      rw [← Hall.out]
      simp [allL]

theorem frames_any (A : Option Addr) (n cap : Nat) (w : World) : Calls Try.prog 23 #[.slice A n cap] w fun e w' => e = .returned (.func (.func 33) #[] #[.pointer (some ⟨w.heap.size, 0, none⟩)]) ∧ w' = w.alloc (.cells #[.slice A n cap] 22) := by
  have hmf : ∀ (fn : Fn) (first cap : Array Value) (w : World), (Instr.makeFunc fn first cap).run Try.prog w = .ok (.func fn first cap) w := fun _ _ _ _ => rfl
  go_enter Try.func23, Try.ntmps23
  go_wp2
  go_ret
  exact ⟨rfl, rfl⟩

theorem own_putObj {W : World} {base : Nat} {e : TypeId} {size : Nat} {v : Value} {n : Nat} {xs : List Value} {k : Nat} {o o' : Obj} (h : W.ownsRow base e size v n xs) (hk : W.heap[k]? = some o) (ho : o.isCells = false) : (W.putObj k o').ownsRow base e size v n xs := by
  refine h.kept (grownBy_putObj' W k o') ?_
  rcases h.2 with ⟨rfl, _⟩ | ⟨g, cap, cur, rfl, _, hg, _⟩
  · exact .inl rfl
  · refine .inr (fun e => ?_)
    have e1 : g = k := by simpa [Value.ownBlock] using e
    subst e1
    rw [hg] at hk
    cases hk
    cases ho
theorem blk_putObj {W : World} {g : Nat} {t : TypeId} {cs : Array Value} {k : Nat} {o o' : Obj} (h : Blk W g t cs) (hk : W.heap[k]? = some o) (ho : o.isCells = false) : Blk (W.putObj k o') g t cs := by
  refine (World.putObj_heap_other (fun e => ?_)).trans h
  subst e
  unfold Blk at h
  rw [h] at hk
  cases hk
  cases ho
theorem grown_below {A B : World} (h : Below A.heap.size A B) (r : Option Nat) : A.grownBy B r := ⟨h.os, h.tape, h.output, h.size, fun k hk _ => h.block k hk⟩
theorem own_below {A B : World} {base : Nat} {e : TypeId} {size : Nat} {v : Value} {n : Nat} {xs : List Value} (h : A.ownsRow base e size v n xs) (hb : Below A.heap.size A B) : B.ownsRow base e size v n xs :=
  h.kept (grown_below hb none) (by cases v.ownBlock <;> simp)
theorem own_apart {W : World} {base base' : Nat} {e e' : TypeId} {size size' : Nat} {v v' : Value} {n n' : Nat} {xs xs' : List Value} (h : W.ownsRow base e size v n xs) (h' : W.ownsRow base' e' size' v' n' xs') (hne : e ≠ e') : v.ownBlock = none ∨ v.ownBlock ≠ v'.ownBlock := by
  rcases h.2 with ⟨rfl, _⟩ | ⟨g, cap, cur, rfl, _, hg, _⟩
  · exact .inl rfl
  · rcases h'.2 with ⟨rfl, _⟩ | ⟨g', cap', cur', rfl, _, hg', _⟩
    · exact .inr (by simp [Value.ownBlock])
    · refine .inr (fun e1 => ?_)
      have e2 : g = g' := by simpa [Value.ownBlock] using e1
      subst e2
      rw [hg] at hg'
      injection hg' with hg'
      injection hg' with _ ht
      exact hne ht

theorem own_form {W : World} {base : Nat} {e : TypeId} {size : Nat} {v : Value} {n : Nat} {xs : List Value} (h : W.ownsRow base e size v n xs) : ∃ V c, v = .slice V n c := by
  rcases h.2 with ⟨rfl, rfl⟩ | ⟨g, cap, cur, rfl, _, _, _⟩
  · exact ⟨none, 0, rfl⟩
  · exact ⟨_, _, rfl⟩
theorem own_blk_ne {W : World} {base : Nat} {e : TypeId} {size : Nat} {v : Value} {n : Nat} {xs : List Value} {g : Nat} {t : TypeId} {cs : Array Value} (h : W.ownsRow base e size v n xs) (hg : Blk W g t cs) (hne : e ≠ t) : v.ownBlock = none ∨ v.ownBlock ≠ some g := by
  rcases h.2 with ⟨rfl, _⟩ | ⟨g', cap, cur, rfl, _, hh, _⟩
  · exact .inl rfl
  · refine .inr (fun he => ?_)
    have e1 : g' = g := by simpa [Value.ownBlock] using he
    subst e1
    unfold Blk at hg
    rw [hh] at hg
    injection hg with hg
    injection hg with _ ht
    exact hne ht
theorem grown_set0 (w : World) (p : Addr) (u : Value) : w.grownBy (w.setCell p u) (some p.block) :=
  ⟨rfl, rfl, rfl, by simp [World.setCell], fun k _ hk => Below.heap_setCell w p u k (fun e => hk (by rw [e]))⟩
theorem own_set {W : World} {base : Nat} {e : TypeId} {size : Nat} {v : Value} {n : Nat} {xs : List Value} {g : Nat} {t : TypeId} {cs : Array Value} (h : W.ownsRow base e size v n xs) (hg : Blk W g t cs) (hne : e ≠ t) (i : Nat) (u : Value) : (W.setCell ⟨g, i, none⟩ u).ownsRow base e size v n xs :=
  h.kept (grown_set0 W ⟨g, i, none⟩ u) (own_blk_ne h hg hne)
def lastN (pre : List El) : Nat := match pre.getLast? with | some x => x.2.2 | none => 0
/-- between two rounds -/
def AllI (w : World) (A : Option Addr) (len cap : Nat) (pre : List El) (W : World) : Prop :=
  (∃ v, Blk W w.heap.size 29 #[v] ∧ W.ownsRow (w.heap.size + 3) 22 1 v pre.length (pre.map (·.1))) ∧
  Blk W (w.heap.size + 1) 3 #[.int .i64 (lastN pre : Int)] ∧ (∀ x ∈ pre, elE w.heap.size x W) ∧ Below w.heap.size w W ∧ Blk W (w.heap.size + 2) 22 #[.slice A len cap] ∧ pre.length ≤ 1048576

theorem AllI.below {w : World} {A : Option Addr} {len cap : Nat} : ∀ (s : List El) (X Y : World), AllI w A len cap s X → Below X.heap.size X Y → AllI w A len cap s Y := by
  rintro s X Y ⟨⟨v, h1, h2⟩, h3, h4, h5, h6, h7⟩ hb
  exact ⟨⟨v, h1.below hb h1.lt, own_below h2 hb⟩, h3.below hb h3.lt, fun x hx => own_below (h4 x hx) hb, h5.trans (hb.mono h5.size), h6.below hb h6.lt, h7⟩
theorem AllI.putObj {w : World} {A : Option Addr} {len cap B : Nat} (hB : w.heap.size ≤ B) : ∀ (s : List El) (X : World) (k : Nat) (o o' : Obj), AllI w A len cap s X → B ≤ k → X.heap[k]? = some o → o.isCells = false → AllI w A len cap s (X.putObj k o') := by
  rintro s X k o o' ⟨⟨v, h1, h2⟩, h3, h4, h5, h6, h7⟩ hk hko ho
  exact ⟨⟨v, blk_putObj h1 hko ho, own_putObj h2 hko ho⟩, blk_putObj h3 hko ho, fun x hx => own_putObj (h4 x hx) hko ho, h5.trans (below_putObj X k o' (by omega)), blk_putObj h6 hko ho, h7⟩
theorem heap_alloc_new' (w : World) (o : Obj) (k : Nat) (h : k = w.heap.size) : (w.alloc o).heap[k]? = some o := by
  subst h; exact heap_alloc_new w o
theorem Try.info22 : (Try.prog.info? 22).map (fun i => (i.zero, i.size, i.bytes)) = some (some (.slice none 0 0), 1, 24) := by kernel_rfl

set_option maxRecDepth 100000 in
set_option maxHeartbeats 2000000 in
theorem all_any (A : Option Addr) (cap : Nat) (zs : List UInt8) (w : World) (hcap : zs.length ≤ cap) (hbig : zs.length ≤ 140737488351232) (hlen : zs.length ≤ 1048575) (hc : RB w A zs) :
    Calls Try.prog 9 #[.slice A zs.length cap] w fun e w' => ∃ (v : Value) (xs : List El), e = .returned (.tuple #[v, .int .i64 (lastN xs : Int)]) ∧ xs.map (·.2) = allL zs (zs.length + 1) 0 ∧
      w'.ownsRow (w.heap.size + 3) 22 1 v xs.length (xs.map (·.1)) ∧ (∀ x ∈ xs, elE w.heap.size x w') ∧ Below w.heap.size w w' := by
  obtain ⟨i0, hi, hz0, hz1, hz2⟩ := info_parts Try.info22
  have hsem := @Oper.semAt_some
  have Hc := Lib.hid hc
  clear hc
  refine (callsIn_wide (n := 5)).1 ?_
  refine callsIn_of_wp_marks Try.func9 rfl trivial ?_ rfl
  simp only [Try.ntmps9, List.size_toArray, List.length_cons, List.length_nil, Nat.reduceAdd, Nat.reduceSub, Array.replicate_succ, Array.replicate_zero, List.push_toArray, List.append_toArray, List.nil_append, List.cons_append]
  gi_wp2_with fail
  refine ⟨trivial, ?_⟩
  refine (callsIn_wide.2 (frames_any _ _ _ _)).mono ?_
  rintro e w' ⟨rfl, hw'⟩
  simp only [World.size_alloc] at hw' ⊢
  have hsz : w'.heap.size = w.heap.size + 3 := by rw [hw']; simp
  have hbw : Below w.heap.size w w' := by rw [hw']; exact ((((Below.refl _ _).alloc (Nat.le_refl _) _).alloc (by simp) _).alloc (by simp; omega) _)
  have hq : Blk w' (w.heap.size + 2) 22 #[.slice A zs.length cap] := by
    rw [hw']; exact heap_alloc_new' _ _ _ (by simp)
  have hI0 : AllI w A zs.length cap [] w' := by
    refine ⟨⟨.slice none 0 0, ?_, World.ownsRow_nil _ _ _ _⟩, ?_, by simp, hbw, hq, by simp⟩
    · rw [hw']; exact (Below.heap_alloc _ _ _ (by simp; omega)).trans ((Below.heap_alloc _ _ _ (by simp)).trans (heap_alloc_new w _))
    · rw [hw']; exact (Below.heap_alloc _ _ _ (by simp)).trans (heap_alloc_new' _ _ _ (by simp))
  have Hsz := Lib.hid hsz
  have Hbw := Lib.hid hbw
  have Hq := Lib.hid hq
  have HI0 := Lib.hid hI0
  clear hw' hsz hbw hq hI0
  gi_wp2_with fail
  refine wpIn_rangeFunc_e (F := Fence.wide) (n := 5) rfl (by omega) (gf := 33) (lb := #[.pointer (some ⟨w.heap.size + 2, 0, none⟩)]) rfl trivial (enters_of Try.func33 (by kernel_rfl) rfl)
    (frames_seq 4 w.heap.size (w.heap.size + 2) cap A zs w' (by omega) hcap hbig (by omega) Hbw.out.size ?hb (Hc.out.below Hbw.out) Hq.out)
    (fun h1 h2 => ⟨h1.1.trans h2.1, fun o ho => h2.2 o (h1.2 o ho)⟩)
    (fun X k o o' hk hko ho => ⟨below_putObj X k o' (by have := Hbw.out.size; omega), fun o2 ho2 => (World.putObj_heap_other (by have := Hsz.out; omega)).trans ho2⟩)
    (Below.refl _ _) (fun _ => rfl)
    (AllI w A zs.length cap) AllI.below (AllI.putObj Hbw.out.size) (fun x X k o o' h _ hko ho => own_putObj h hko ho) HI0.out
    (fun x => { tmps := #[.slice A zs.length cap, undef, .slice none 0 0, .int .i64 0, .pointer (some ⟨w.heap.size, 0, none⟩), .pointer (some ⟨w.heap.size + 1, 0, none⟩), x.1, .int .i64 (x.2.2 : Int), .slice A zs.length cap, .func (.func 33) #[] #[.pointer (some ⟨w.heap.size + 1 + 1, 0, none⟩)], x.1, .int .i64 (x.2.2 : Int), undef, undef, undef, undef, undef, undef, undef], defers := [] }) ?assign ?body ?done
  case hb =>
    intro b off hA h0
    obtain ⟨b', off', hA', hlt, _⟩ := Hc.out h0
    rw [hA] at hA'
    injection hA' with e; injection e with e1 _ _
    omega
  case assign =>
    intro l x W K hK
    have hsem := @Oper.semAt_some
    simp only [elV, List.zip_toArray, List.zip_cons_cons, List.zip_nil_right, List.foldl_toArray', List.foldl_cons, List.foldl_nil]
    gi_wp2
    exact hK
  case body =>
    rintro l pre x W ⟨⟨v, h1, h2⟩, h3, h4, h5, h6, h7⟩ hE hN hlt
    obtain ⟨V, vc, rfl⟩ := own_form h2
    have H2 := Lib.hid h2
    have H4 := Lib.hid h4
    have H5 := Lib.hid h5
    have H6 := Lib.hid h6
    have HE := Lib.hid hE
    have H1 := Lib.hid h1
    have H3 := Lib.hid h3
    have hc1 : W.cell? ⟨w.heap.size, 0, none⟩ = some (.slice V pre.length vc) := h1.cell 0
    have hc3 : W.cell? ⟨w.heap.size + 1, 0, none⟩ = some (.int .i64 (lastN pre : Int)) := h3.cell 0
    have hf1 : W.frozen? ⟨w.heap.size, 0, none⟩ = false := h1.frozen 0
    have hf3 : W.frozen? ⟨w.heap.size + 1, 0, none⟩ = false := h3.frozen 0
    obtain ⟨x, zp, nx⟩ := x
    obtain ⟨X, xc, hx⟩ := own_form hE
    simp only [] at hx
    subst hx
    clear h1 h2 h3 h4 h5 h6 hE
    gi_wp2_with (gi_at_builtin; refine wpListIn_append_own _ rfl _ _ 29 rfl (w.heap.size + 3) 22 i0 (.slice none 0 0) 1 24 Try.underlying29 hi hz0 hz1 hz2 rfl (by decide) _ _ _ rfl (H2.out.alloc _) ⟨W.heap.size, 0, none⟩ 1 1 [.slice X zp.length xc] rfl rfl (cell_one_new _ _ _) (by simp [Value.oneCell']) (by simp only [maxLen]; omega) (by omega) (by have := Hsz.out; simp; omega) ?_)
    intro v' w1 hown' hgrow hnil
    obtain ⟨g', c', rfl⟩ := ownsRow_succ hown'
    have hWsz : w.heap.size + 3 ≤ W.heap.size := by have := Hsz.out; omega
    have hrow : ∀ k, some k = (Value.slice V pre.length vc).ownBlock → w.heap.size + 3 ≤ k := fun k e => (H2.out.lt k e.symm).1
    have hkeep : ∀ k (o : Obj), k < w.heap.size + 3 → W.heap[k]? = some o → w1.heap[k]? = some o := fun k o hk ho =>
      (hgrow.block k (by simp; omega) (fun e => by have := hrow k e; omega)).trans ((Below.heap_alloc _ _ _ (by omega)).trans ho)
    have hb1 : Blk w1 w.heap.size 29 #[.slice V pre.length vc] := hkeep _ _ (by omega) H1.out
    have hb3 : Blk w1 (w.heap.size + 1) 3 #[.int .i64 (lastN pre : Int)] := hkeep _ _ (by omega) H3.out
    have hb6 : Blk w1 (w.heap.size + 2) 22 #[.slice A zs.length cap] := hkeep _ _ (by omega) H6.out
    have hg' := (hown'.lt g' rfl).1
    have hne1 : w.heap.size + 1 ≠ (⟨w.heap.size, 0, none⟩ : Addr).block := by simp
    have hb3' : Blk (w1.setCell ⟨w.heap.size, 0, none⟩ (.slice (some ⟨g', 0, none⟩) (pre.length + 1) c')) (w.heap.size + 1) 3 #[.int .i64 (lastN pre : Int)] := (Below.heap_setCell w1 _ _ _ hne1).trans hb3
    have hw1 : Below w.heap.size w w1 := H5.out.trans (((Below.refl _ W).alloc H5.out.size _).trans ⟨hgrow.os, hgrow.tape, hgrow.output, hgrow.size, fun k hk => hgrow.block k (by simp; omega) (fun e => by have := hrow k e; omega)⟩)
    have hko : KeepsOthers W w1 := (KeepsOthers.alloc W _).trans (KeepsOthers.of_grownBy hgrow (fun j o e ho => by
      rcases H2.out.2 with ⟨e1, _⟩ | ⟨gg, cc, cur, e1, _, hgg, _⟩
      · rw [e1] at e; cases e
      · rw [e1] at e
        have e2 : gg = j := by simpa [Value.ownBlock] using e
        subst e2
        rw [Below.heap_alloc _ _ _ (Array.getElem?_eq_some_iff.1 hgg).1, hgg] at ho
        cases ho; rfl))
    have hWw1 : Below w.heap.size W w1 := ((Below.refl _ W).alloc H5.out.size _).trans ⟨hgrow.os, hgrow.tape, hgrow.output, hgrow.size, fun k hk => hgrow.block k (by simp; omega) (fun e => by have := hrow k e; omega)⟩
    have HWw1 := Lib.hid hWw1
    clear hWw1
    have hel : ∀ y ∈ pre ++ [((.slice X zp.length xc, zp, nx) : El)], elE w.heap.size y w1 := fun y hy => by
      have hy1 : elE w.heap.size y W := by
        rcases List.mem_append.1 hy with h | h
        · exact H4.out y h
        · rw [List.mem_singleton.1 h]; exact HE.out
      exact World.ownsRow.kept (World.ownsRow.alloc hy1 _) hgrow (own_apart hy1 H2.out (by decide))
    have hc1' := hb1.cell 0
    have hf1' := hb1.frozen 0
    have hc3' := hb3'.cell 0
    have hf3' := hb3'.frozen 0
    have Hown' := Lib.hid hown'
    have Hb1 := Lib.hid hb1
    have Hb3 := Lib.hid hb3'
    have Hb6 := Lib.hid hb6
    have Hw1 := Lib.hid hw1
    have Hko := Lib.hid hko
    have Hel := Lib.hid hel
    clear hown' hgrow hnil hb1 hb3 hb6 hb3' hw1 hko hel hkeep hrow hc1 hc3 hf1 hf3
    simp only [List.getElem?_toArray, List.getElem?_cons_zero] at hc1' hc3'
    gi_wp2_with fail
    have hb1s := Hb1.out.set_ 0 (.slice (some ⟨g', 0, none⟩) (pre.length + 1) c')
    have hb3s := Hb3.out.set_ 0 (.int .i64 (nx : Int))
    have hne3 : w.heap.size ≠ (⟨w.heap.size + 1, 0, none⟩ : Addr).block := by simp
    have hne6 : w.heap.size + 2 ≠ (⟨w.heap.size, 0, none⟩ : Addr).block := by simp
    have hne6' : w.heap.size + 2 ≠ (⟨w.heap.size + 1, 0, none⟩ : Addr).block := by simp
    have hb6s : Blk ((w1.setCell ⟨w.heap.size, 0, none⟩ (.slice (some ⟨g', 0, none⟩) (pre.length + 1) c')).setCell ⟨w.heap.size + 1, 0, none⟩ (.int .i64 (nx : Int))) (w.heap.size + 2) 22 #[.slice A zs.length cap] :=
      (Below.heap_setCell _ _ _ _ hne6').trans ((Below.heap_setCell _ _ _ _ hne6).trans Hb6.out)
    refine ⟨Hko.out.trans ((KeepsOthers.setCell _ _ _).trans (KeepsOthers.setCell _ _ _)), ⟨(HWw1.out.setCell (p := ⟨w.heap.size, 0, none⟩) (Nat.le_refl _) _).setCell (p := ⟨w.heap.size + 1, 0, none⟩) (by simp) _, ?_⟩, ⟨_, (Below.heap_setCell _ _ _ _ hne3).trans hb1s, ?_⟩, ?_, ?_, ?_, hb6s, ?_⟩
    · intro o ho
      have := H6.out
      unfold Blk at this
      rw [this] at ho
      rw [← ho]
      exact hb6s
    · have := own_set (own_set Hown'.out Hb1.out (by decide) 0 (.slice (some ⟨g', 0, none⟩) (pre.length + 1) c')) Hb3.out (by decide) 0 (.int .i64 (nx : Int))
      simpa using this
    · simpa [lastN] using hb3s
    · exact fun y hy => own_set (own_set (Hel.out y hy) Hb1.out (by decide) 0 _) Hb3.out (by decide) 0 _
    · exact (Hw1.out.setCell (p := ⟨w.heap.size, 0, none⟩) (Nat.le_refl _) _).setCell (p := ⟨w.heap.size + 1, 0, none⟩) (by simp) _
    · simp; omega
  case done =>
    rintro D ys W hD hS ⟨⟨v, h1, h2⟩, h3, h4, h5, h6, h7⟩ hK
    obtain ⟨V, vc, rfl⟩ := own_form h2
    have hc1 : W.cell? ⟨w.heap.size, 0, none⟩ = some (.slice V ys.length vc) := h1.cell 0
    have hc3 : W.cell? ⟨w.heap.size + 1, 0, none⟩ = some (.int .i64 (lastN ys : Int)) := h3.cell 0
    have H2 := Lib.hid h2
    have H4 := Lib.hid h4
    have H5 := Lib.hid h5
    have HK := Lib.hid hK
    have HS := Lib.hid hS
    clear h1 h2 h3 h4 h5 h6 hK hS
    gi_wp2_with fail
    gi_region
    all_goals gi_wp2_with fail
    all_goals refine ⟨by simp, .inl ⟨_, _, rfl, run_takeDeferred (w := W.drew) HK.out, ?_⟩⟩
    all_goals refine ⟨.tuple #[.slice V ys.length vc, .int .i64 (lastN ys : Int)], by simp [results, Try.results9, go_sem], _, ys, rfl, HS.out, ?_, ?_, ?_⟩
    · exact own_putObj (W := W.drew) H2.out.drew HK.out rfl
    · exact fun x hx => own_putObj (W := W.drew) (H4.out x hx).drew HK.out rfl
    · exact H5.out.drew.trans (below_putObj W.drew D _ (by have := Hbw.out.size; omega))
end Go.Proofs.Ythigpdalmdmebaa
