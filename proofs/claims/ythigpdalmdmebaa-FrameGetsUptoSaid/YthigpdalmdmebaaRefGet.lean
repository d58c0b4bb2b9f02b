/- The document's answer for a frame at a place: the reference's Get answers what 'getN' says. -/
import Derived.Test.YthigpdalmdmebaaRef
namespace Go.Proofs.Ythigpdalmdmebaa
open Go Go.RowKit

def RdR (s : ByteArray) (at_ er : Nat) : Value := .agg #[.string s, .int .i64 (at_ : Int), .int .i64 (er : Int)]
theorem wrong_any (s : ByteArray) (a e : Nat) (w : World) : Calls Try.prog 30 #[.agg #[.string s, .int .i64 (a : Int), .int .i64 0], .int .i64 (e : Int)] w fun r w' =>
    r = .returned (.agg #[.string s, .int .i64 (a : Int), .int .i64 (e : Int)]) ∧ w' = (w.alloc (.cells #[.string s, .int .i64 (a : Int), .int .i64 (e : Int)] 54)).alloc (.cells #[.string s, .int .i64 (a : Int), .int .i64 (e : Int)] 54) := by
  go_enter Try.func30, Try.ntmps30
  go_wp2_with fail
  refine bodyPost_ret (v := RdR s a e) (by simp [results, Try.results30, go_sem, RdR]) rfl ⟨rfl, rfl⟩

set_option maxRecDepth 100000 in
theorem refCount_any (s : ByteArray) (w : World) (hs : s.size ≤ 140737488351232) : Calls Try.prog 21 #[.agg #[.string s, .int .i64 0, .int .i64 0], .int .i64 1048576] w fun r w' =>
    r = .returned (.tuple #[.agg #[.string s, .int .i64 ((cntF s.data.toList 1048576).2.1 : Int), .int .i64 ((cntF s.data.toList 1048576).2.2 : Int)], .int .i64 ((cntF s.data.toList 1048576).1 : Int)]) ∧ Below w.heap.size w w' := by
  obtain ⟨c, hc⟩ : ∃ c, c = cntF s.data.toList 1048576 := ⟨_, rfl⟩
  rw [← hc]
  unfold cntF at hc
  have Hc := Lib.hid hc
  clear hc
  go_enter Try.func21, Try.ntmps21
  go_wp2_with fail
  refine (refNumber_any s _ hs).mono ?_
  rintro e w' ⟨rfl, rfl⟩
  generalize numF s.data.toList = t at Hc
  obtain ⟨v, u, er⟩ := t
  have hbel : Below w.heap.size w ((w.alloc (Obj.cells #[Value.string s, Value.int IntKind.i64 0, Value.int IntKind.i64 0] 54)).alloc
      (Obj.cells #[Value.string { data := #[] }, Value.int IntKind.i64 0, Value.int IntKind.i64 0] 54)) := ((Below.refl _ _).alloc (Nat.le_refl _) _).alloc (by simp) _
  have Hbel := Lib.hid hbel
  clear hbel
  have hmax : ∀ (ts : Array TypeId) (t : TypeId) (w : World), (Builtin.max_ ts t #[.int .i64 0, .int .i64 1048576]).run Try.prog w = .ok (.int .i64 1048576) w := fun ts t w => by
    simp only [Builtin.max_]
    simp [Builtin.max2]
    done
  by_cases h0 : er = 0
  · subst h0
    by_cases h1 : v < 0
    · have hc := Hc.out
      rw [if_neg (by simp), if_pos h1] at hc
      subst hc
      go_wp2_with fail
      refine (wrong_any s 0 4 _).mono ?_
      rintro e w' ⟨rfl, rfl⟩
      go_wp2_with fail
      refine bodyPost_ret (v := .tuple #[.agg #[.string s, .int .i64 0, .int .i64 4], .int .i64 0]) (by simp [results, Try.results21, go_sem]) rfl ⟨rfl, ?_⟩
      exact ((((Below.refl _ _).alloc (Nat.le_refl _) _).alloc (by simp) _).alloc (by simp; omega) _).alloc (by simp; omega) _
    by_cases h2 : 1048576 < v
    · have hc := Hc.out
      rw [if_neg (by simp), if_neg h1, if_pos (by simpa using h2)] at hc
      subst hc
      go_wp2_with fail
      refine (wrong_any s 0 5 _).mono ?_
      rintro e w' ⟨rfl, rfl⟩
      go_wp2_with fail
      refine bodyPost_ret (v := .tuple #[.agg #[.string s, .int .i64 0, .int .i64 5], .int .i64 0]) (by simp [results, Try.results21, go_sem]) rfl ⟨rfl, ?_⟩
      exact ((((Below.refl _ _).alloc (Nat.le_refl _) _).alloc (by simp) _).alloc (by simp; omega) _).alloc (by simp; omega) _
    · have hc := Hc.out
      rw [if_neg (by simp), if_neg h1, if_neg (by simpa using h2)] at hc
      obtain ⟨v', rfl⟩ := Int.eq_ofNat_of_zero_le (show 0 ≤ v by omega)
      simp only [Int.toNat_natCast] at hc
      subst hc
      go_wp2_with fail
      refine bodyPost_ret (v := .tuple #[.agg #[.string s, .int .i64 (u : Int), .int .i64 0], .int .i64 (v' : Int)]) (by simp [results, Try.results21, go_sem]) rfl ⟨rfl, ?_⟩
      exact ((Below.refl _ _).alloc (Nat.le_refl _) _).alloc (by simp) _
  · have hc := Hc.out
    rw [if_pos (by simpa using h0)] at hc
    subst hc
    have hne : ((er : Int) != 0) = true := by simpa using h0
    go_wp2_with fail
    refine (wrong_any s 0 er _).mono ?_
    rintro e w' ⟨rfl, rfl⟩
    go_wp2_with fail
    refine bodyPost_ret (v := .tuple #[.agg #[.string s, .int .i64 0, .int .i64 (er : Int)], .int .i64 0]) (by simp [results, Try.results21, go_sem]) rfl ⟨rfl, ?_⟩
    exact ((((Below.refl _ _).alloc (Nat.le_refl _) _).alloc (by simp) _).alloc (by simp; omega) _).alloc (by simp; omega) _

/-! the plain law: what stands at the front is the one way to write its number -/
theorem numR_congr (l l' : List UInt8) : ∀ r i f, (∀ j, i ≤ j → j < i + r → l[j]? = l'[j]?) → numR l r i f = numR l' r i f := by
  intro r
  induction r with
  | zero => intro i f _; rfl
  | succ r ih =>
    intro i f h
    simp only [numR]
    rw [h i (Nat.le_refl _) (by omega)]
    cases l'[i]? with
    | none => rfl
    | some c =>
      simp only []
      rw [ih (i + 1) (f + c.toNat % 128 * 128 ^ i) (fun j h1 h2 => h j (by omega) (by omega))]
theorem numF_take (l : List UInt8) : numF (l.take 11) = numF l := by
  unfold numF
  refine numR_congr _ _ 10 0 0 (fun j _ h => ?_)
  rw [List.getElem?_take_of_lt (by omega)]
theorem cntF_take (l : List UInt8) (m : Nat) : cntF (l.take 11) m = cntF l m := by
  unfold cntF
  rw [numF_take]
theorem numR_canon (l : List UInt8) : ∀ r i acc v u, numR l r i acc = (v, u, 0) → r + i = 10 →
    ∃ f, v = unfI (acc + f * 128 ^ i) ∧ i < u ∧ u ≤ l.length ∧ (l.drop i).take (u - i) = vint (r - 1) f ∧ (0 < i → 0 < f) := by
  intro r
  induction r with
  | zero => intro i acc v u h _; simp [numR] at h
  | succ r ih =>
    intro i acc v u h hri
    simp only [numR] at h
    cases hc : l[i]? with
    | none => rw [hc] at h; simp at h
    | some c =>
      rw [hc] at h
      simp only [] at h
      have hl := (List.getElem?_eq_some_iff.1 hc).1
      have hce := (List.getElem?_eq_some_iff.1 hc).2
      have hc256 := c.toNat_lt
      have hdrop : l.drop i = c :: l.drop (i + 1) := by rw [List.drop_eq_getElem_cons hl, hce]
      split at h
      · simp at h
      · split at h
        · rename_i h1 h2
          obtain ⟨f, e1, e2, e3, e4, e5⟩ := ih (i + 1) _ v u h (by omega)
          have hf := e5 (by omega)
          cases r with
          | zero => simp [numR] at h
          | succ r =>
            refine ⟨c.toNat % 128 + 128 * f, ?_, by omega, e3, ?_, fun _ => by omega⟩
            · rw [e1, Nat.pow_succ, Nat.add_assoc]
              congr 2
              rw [Nat.add_mul, ← Nat.mul_assoc, Nat.mul_comm (f * 128 ^ i) 128, ← Nat.mul_assoc]
            · simp only [Nat.add_sub_cancel] at e4 ⊢
              simp only [vint]
              rw [if_neg (by omega), show (c.toNat % 128 + 128 * f) % 128 + 128 = c.toNat by omega, show (c.toNat % 128 + 128 * f) / 128 = f by omega]
              rw [hdrop, show u - i = (u - (i + 1)) + 1 by omega, List.take_succ_cons, e4]
              simp
        · rename_i h1 h2
          split at h
          · simp at h
          · rename_i h3
            simp only [Prod.mk.injEq] at h
            obtain ⟨hv, hu, _⟩ := h
            refine ⟨c.toNat, ?_, by omega, by omega, ?_, fun hi => by omega⟩
            · rw [← hv, Nat.mod_eq_of_lt (by omega)]
            · rw [hdrop, ← hu, show i + 1 - i = 0 + 1 by omega, List.take_succ_cons]
              simp only [List.take_zero, Nat.add_sub_cancel]
              cases r with
              | zero => simp [vint]
              | succ r => simp only [vint]; rw [if_pos (by omega)]; simp
theorem cntF_canon (l : List UInt8) (m n u : Nat) (h : cntF l m = (n, u, 0)) : l.take u = longF n ∧ u ≤ l.length ∧ n ≤ m := by
  unfold cntF at h
  split at h
  · rename_i h0; simp only [Prod.mk.injEq] at h; exact absurd h.2.2 h0
  · rename_i h0
    split at h
    · simp at h
    · rename_i h1
      split at h
      · simp at h
      · rename_i h2
        simp only [Prod.mk.injEq, and_true] at h
        obtain ⟨hn, hu⟩ := h
        have hh : numR l 10 0 0 = ((numF l).1, (numF l).2.1, 0) := by
          have h00 : (numF l).2.2 = 0 := by omega
          show numF l = _
          exact Prod.ext rfl (Prod.ext rfl h00)
        obtain ⟨f, e1, e2, e3, e4, _⟩ := numR_canon l 10 0 0 _ _ hh rfl
        rw [hu] at e3 e4
        simp only [List.drop_zero, Nat.sub_zero, Nat.pow_zero, Nat.mul_one, Nat.zero_add, Nat.reduceSub] at e1 e4
        refine ⟨?_, e3, by omega⟩
        rw [e4, longF]
        congr 1
        unfold unfI at e1
        split at e1 <;> omega
/-- the two ways to look at a frame's sum are one -/
theorem frame_eq (zs : List UInt8) (k n u : Nat) (h : cntF (zs.drop k) 1048576 = (n, u, 0)) (hlen : k + u + n + 4 ≤ zs.length) :
    ((zs.drop k).take (u + n + 4) = frameF ((zs.drop (k + u)).take n)) ↔ (zs.drop (k + u + n)).take 4 = le4 (moreF 0#32 ((zs.drop k).take (u + n))) := by
  obtain ⟨h1, h2, h3⟩ := cntF_canon _ _ _ _ h
  have hx : ((zs.drop (k + u)).take n).length = n := by simp; omega
  have e0 : (zs.drop k).take (u + n) = longF n ++ (zs.drop (k + u)).take n := by
    rw [List.take_add, h1, List.drop_drop]
  have e1 : (zs.drop k).take (u + n + 4) = (longF n ++ (zs.drop (k + u)).take n) ++ (zs.drop (k + u + n)).take 4 := by
    rw [List.take_add, e0, List.drop_drop, show k + (u + n) = k + u + n by omega]
  rw [e0, e1]
  unfold frameF
  rw [hx, more_append]
  constructor
  · intro h
    exact List.append_cancel_left h
  · intro h
    rw [h]

theorem S_extract (zs : List UInt8) (a b : Nat) : (⟨zs.toArray⟩ : ByteArray).extract a b = ⟨((zs.drop a).take (b - a)).toArray⟩ := by
  apply ByteArray.ext
  rw [ByteArray.data_extract]
  simp
theorem run_sslice (zs : List UInt8) (a b : Int) (lo hi : Nat) (w : World) (ha : a = (lo : Int)) (hb : b = (hi : Int)) (h1 : lo ≤ hi) (h2 : hi ≤ zs.length) :
    (Instr.slice 9 (.string ⟨zs.toArray⟩) (some (.int .i64 a)) (some (.int .i64 b)) none).run Try.prog w = .ok (.string ⟨((zs.drop lo).take (hi - lo)).toArray⟩) w := by
  subst ha; subst hb
  rw [← S_extract]
  have hsz : (⟨zs.toArray⟩ : ByteArray).size = zs.length := rfl
  simp [Instr.slice, run_underlying Try.underlying9, Instr.sliceBounds, Instr.sliceBound, asIntOf, hsz, h1, h2]
set_option maxRecDepth 100000 in
set_option maxHeartbeats 2000000 in
theorem refGet_any (zs : List UInt8) (k : Nat) (w : World) (hk : k ≤ zs.length) (hbig : zs.length ≤ 140737488351232) : Calls Try.prog 8 #[.string ⟨zs.toArray⟩, .int .i64 (k : Int)] w fun e w' =>
    e = .returned (.tuple #[.string ⟨(getN zs k).1.toArray⟩, .int .i64 ((getN zs k).2.1 : Int), .int .i64 ((getN zs k).2.2 : Int)]) ∧ Below w.heap.size w w' := by
  have hsz : (⟨zs.toArray⟩ : ByteArray).size = zs.length := rfl
  have hd1 : decide ((k : Int) < 0) = false := by simp
  have hd2 : decide ((zs.length : Int) < (k : Int)) = false := by simp; omega
  have hgN : getN zs k = getN zs k := rfl
  conv at hgN => rhs; unfold getN
  rw [cntF_take] at hgN
  have hcz := cntF_zero (zs.drop k) 1048576
  have hcu := cntF_used (zs.drop k) 1048576
  have hcf := cntF_fits (zs.drop k) 1048576
  have hcc := cntF_canon (zs.drop k) 1048576
  have hfe := frame_eq zs k
  obtain ⟨t, ht⟩ : ∃ t, t = cntF (zs.drop k) 1048576 := ⟨_, rfl⟩
  rw [← ht] at hgN hcz hcu hcf hcc hfe
  obtain ⟨n, u, er⟩ := t
  have Ht := Lib.hid ht
  have HgN := Lib.hid hgN
  have Hcc := Lib.hid hcc
  have Hfe := Lib.hid hfe
  simp only [List.length_drop] at hcz hcu hcf
  clear ht hgN hcc hfe
  go_enter Try.func8, Try.ntmps8
  go_wp2_with fail
  rw [S_extract, List.take_of_length_le (by simp)]
  refine (refCount_any ⟨(zs.drop k).toArray⟩ w (by show (zs.drop k).toArray.size ≤ _; simp; omega)).mono ?_
  rintro e w1 ⟨rfl, hb1⟩
  rw [show (⟨(zs.drop k).toArray⟩ : ByteArray).data.toList = zs.drop k by simp, ← Ht.out]
  have Hb1 := Lib.hid hb1
  clear hb1
  simp only []
  by_cases h0 : er = 0
  · subst h0
    have hcf := hcf rfl
    clear hcz
    have hn : n ≤ 1048576 := (Hcc.out _ _ rfl).2.2
    by_cases h1 : zs.length - (k + u) < n + 4
    · have hdd : decide ((zs.length : Int) - (k : Int) - (u : Int) < (n : Int) + 4) = true := by simp; omega
      go_wp2_with fail
      rw [HgN.out, if_neg (by simp), if_pos h1]
      refine bodyPost_ret (v := .tuple #[.string ⟨#[]⟩, .int .i64 0, .int .i64 3]) (by simp [results, Try.results8, go_sem]) rfl ⟨rfl, ?_⟩
      exact Hb1.out.alloc Hb1.out.size _
    · have hdd : decide ((zs.length : Int) - (k : Int) - (u : Int) < (n : Int) + 4) = false := by simp; omega
      have hsl1 := fun w => run_sslice zs ((k : Int) + (u : Int)) ((k : Int) + (u : Int) + (n : Int)) (k + u) (k + u + n) w (by omega) (by omega) (by omega) (by omega)
      have hsl2 := fun w => run_sslice zs (k : Int) ((k : Int) + (u : Int) + (n : Int) + 4) k (k + u + n + 4) w (by omega) (by omega) (by omega) (by omega)
      rw [show k + u + n - (k + u) = n by omega] at hsl1
      rw [show k + u + n + 4 - k = u + n + 4 by omega] at hsl2
      go_wp2_with fail
      have hb2 : Below w.heap.size w (w1.alloc (.cells #[.string ⟨(zs.drop k).toArray⟩, .int .i64 (u : Int), .int .i64 0] 54)) := Hb1.out.alloc Hb1.out.size _
      generalize (w1.alloc (.cells #[.string ⟨(zs.drop k).toArray⟩, .int .i64 (u : Int), .int .i64 0] 54)) = w2 at hb2 ⊢
      have Hb2 := Lib.hid hb2
      clear hb2
      have hxl : ((zs.drop (k + u)).take n).length = n := by simp; omega
      have hfe := Hfe.out n u rfl (by omega)
      have hg := HgN.out
      rw [if_neg (by simp), if_neg h1] at hg
      have Hfe' := Lib.hid hfe
      have Hg := Lib.hid hg
      clear hfe hg hsl1
      by_cases hE : (zs.drop k).take (u + n + 4) = frameF ((zs.drop (k + u)).take n)
      · have hnq : ((zs.drop k).take (u + n + 4) == frameF ((zs.drop (k + u)).take n)) = true := by simpa using hE
        have HE := Lib.hid hE
        clear hE
        go_region_held3 (fun w' => Below w2.heap.size w2 w')
          (first
            | (go_keep; done)
            | assumption | exact (Below.refl _ _).drew | exact Below.drew (by assumption))
          ((go_at_call 22; refine (refFrame_any _ _ (by omega)).mono ?_; rintro e w3 ⟨rfl, hb3⟩; have hb4 : Below w2.heap.size w2 w3 := (Below.refl _ _).drew.trans hb3; clear hb3))
        all_goals go_wp2_with fail
        all_goals
          have hb5 : Below w2.heap.size w2 w3 := by assumption
          have hgg := Hg.out
          rw [if_neg (by simpa using Hfe'.out.1 HE.out)] at hgg
          rw [hgg]
          refine bodyPost_ret (v := .tuple #[.string ⟨((zs.drop (k + u)).take n).toArray⟩, .int .i64 ((k : Int) + (u : Int) + (n : Int) + 4), .int .i64 0]) (by simp [results, Try.results8, go_sem]) rfl ⟨by simp, ?_⟩
          exact Hb2.out.trans (hb5.mono Hb2.out.size)
      · have hnq : ((zs.drop k).take (u + n + 4) == frameF ((zs.drop (k + u)).take n)) = false := by simpa using hE
        have HE := Lib.hid hE
        clear hE
        go_region_held3 (fun w' => Below w2.heap.size w2 w')
          (first
            | (go_keep; done)
            | assumption | exact (Below.refl _ _).drew | exact Below.drew (by assumption))
          ((go_at_call 22; refine (refFrame_any _ _ (by omega)).mono ?_; rintro e w3 ⟨rfl, hb3⟩; have hb4 : Below w2.heap.size w2 w3 := (Below.refl _ _).drew.trans hb3; clear hb3))
        all_goals go_wp2_with fail
        all_goals
          have hb5 : Below w2.heap.size w2 w3 := by assumption
          have hgg := Hg.out
          rw [if_pos (fun h => HE.out (Hfe'.out.2 h))] at hgg
          rw [hgg]
          refine bodyPost_ret (v := .tuple #[.string ⟨#[]⟩, .int .i64 0, .int .i64 4]) (by simp [results, Try.results8, go_sem]) rfl ⟨by simp, ?_⟩
          exact Hb2.out.trans (hb5.mono Hb2.out.size)
  · have hz := hcz h0
    obtain ⟨rfl, rfl⟩ := hz
    have hne : ((er : Int) != 0) = true := by simpa using h0
    clear hcf
    go_wp2_with fail
    go_quiet (fail)
    go_wp2_with fail
    rw [HgN.out, if_pos (by simpa using h0)]
    refine bodyPost_ret (v := .tuple #[.string ⟨#[]⟩, .int .i64 0, .int .i64 (er : Int)]) (by simp [results, Try.results8, go_sem]) rfl ⟨rfl, ?_⟩
    exact (Hb1.out.alloc Hb1.out.size _).trans ⟨rfl, rfl, rfl, Nat.le_refl _, fun _ _ => rfl⟩
end Go.Proofs.Ythigpdalmdmebaa
