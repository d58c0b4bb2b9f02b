/- A burst of 1 to 32 turned bits changes the register's sum; a frame that was put is got back: plain laws, with no program in sight. -/
import Derived.Test.YthigpdalmdmebaaJoined
namespace Go.Proofs.Ythigpdalmdmebaa
open Go Go.RowKit

theorem bitF_even (c : BitVec 32) (h : c.getLsbD 0 = false) : bitF c = c >>> 1 := by
  unfold bitF
  have h1 : c &&& 1#32 = 0#32 := by
    apply BitVec.eq_of_getLsbD_eq
    intro i hi
    rcases Nat.eq_zero_or_pos i with rfl | hp
    · simpa using h
    · simp [BitVec.getLsbD_one]; omega
  rw [h1]
  simp
theorem bitF_odd (c : BitVec 32) (h : c.getLsbD 0 = true) : bitF c = c >>> 1 ^^^ 3988292384#32 := by
  unfold bitF
  have h1 : c &&& 1#32 = 1#32 := by
    apply BitVec.eq_of_getLsbD_eq
    intro i hi
    rcases Nat.eq_zero_or_pos i with rfl | hp
    · simp [h]
    · simp [BitVec.getLsbD_one]; omega
  rw [h1]
  congr 1
theorem bitF_zero (c : BitVec 32) (h : bitF c = 0#32) : c = 0#32 := by
  cases h0 : c.getLsbD 0 with
  | true =>
    rw [bitF_odd c h0] at h
    have := congrArg (fun x => x.getLsbD 31) h
    simp at this
  | false =>
    rw [bitF_even c h0] at h
    apply BitVec.eq_of_getLsbD_eq
    intro i hi
    rcases Nat.eq_zero_or_pos i with rfl | hp
    · simpa using h0
    · have := congrArg (fun x => x.getLsbD (i - 1)) h
      simp only [BitVec.getLsbD_ushiftRight, BitVec.getLsbD_zero] at this
      rw [show 1 + (i - 1) = i by omega] at this
      simpa using this
theorem bitsF_zero (n : Nat) (c : BitVec 32) (h : bitsF n c = 0#32) : c = 0#32 := by
  induction n with
  | zero => exact h
  | succ n ih => exact ih (bitF_zero _ h)
theorem bitsF_add (m n : Nat) (c : BitVec 32) : bitsF (m + n) c = bitsF m (bitsF n c) := by
  induction m with
  | zero => simp [bitsF]
  | succ m ih => rw [show m + 1 + n = (m + n) + 1 by omega]; simp only [bitsF]; rw [ih]
theorem bitsF_shift (n : Nat) (y : BitVec 32) (h : ∀ i, i < n → y.getLsbD i = false) : bitsF n y = y >>> n := by
  induction n with
  | zero => simp [bitsF]
  | succ n ih =>
    simp only [bitsF]
    rw [ih (fun i hi => h i (by omega)), bitF_even _ (by simpa using h n (by omega))]
    apply BitVec.eq_of_getLsbD_eq
    intro i hi
    simp only [BitVec.getLsbD_ushiftRight]
    congr 1
    omega
/-- bit i alone -/
def bitAt (i : Nat) : BitVec 32 := 1#32 <<< i
theorem bitAt_lsb (i j : Nat) (hi : i < 32) : (bitAt i).getLsbD j = decide (i = j) := by
  unfold bitAt
  by_cases h : i = j
  · subst h; simp [hi]
  · simp only [BitVec.getLsbD_shiftLeft, BitVec.getLsbD_one, h, decide_false]
    simp
    omega
theorem bitsF_bitAt (i : Nat) (hi : i < 32) : bitsF i (bitAt i) = 1#32 := by
  rw [bitsF_shift i _ (fun j hj => by rw [bitAt_lsb i j hi]; simp; omega)]
  apply BitVec.eq_of_getLsbD_eq
  intro j hj
  rw [BitVec.getLsbD_ushiftRight, bitAt_lsb i _ hi, BitVec.getLsbD_one]
  simp
/-- one bit's change, seen from the place where the row begins -/
theorem bits_move (a b i t : Nat) (hi : i < 32) (ht : t < 32) (h : b + i = a + t) (h1 : t ≤ b) (h2 : i ≤ a) : bitsF b (bitAt t) = bitsF a (bitAt i) := by
  have e1 : bitsF b (bitAt t) = bitsF (b - t) (bitsF t (bitAt t)) := by rw [← bitsF_add]; congr 1; omega
  have e2 : bitsF a (bitAt i) = bitsF (a - i) (bitsF i (bitAt i)) := by rw [← bitsF_add]; congr 1; omega
  rw [e1, e2, bitsF_bitAt i hi, bitsF_bitAt t ht, show b - t = a - i by omega]
theorem xor_zero_iff (a b : BitVec 32) : a ^^^ b = a → b = 0#32 := by
  intro h
  have : a ^^^ (a ^^^ b) = a ^^^ a := by rw [h]
  rw [← BitVec.xor_assoc, BitVec.xor_self, BitVec.zero_xor] at this
  exact this

theorem byteF_xor (s d : BitVec 32) (x : UInt8) : byteF (s ^^^ d) x = byteF s x ^^^ bitsF 8 d := by
  unfold byteF
  rw [← bitsF_lin]
  congr 1
  rw [BitVec.xor_assoc, BitVec.xor_assoc, BitVec.xor_comm d]
theorem regF_xor (l : List UInt8) : ∀ (s d : BitVec 32), regF (s ^^^ d) l = regF s l ^^^ bitsF (8 * l.length) d := by
  induction l with
  | nil => intro s d; rfl
  | cons x l ih =>
    intro s d
    simp only [regF, List.foldl_cons] at ih ⊢
    rw [byteF_xor, ih, ← bitsF_add]
    congr 2
def flipB (x : UInt8) (t : Nat) : UInt8 := x ^^^ UInt8.ofNat (2 ^ t)
theorem byteF_flip (s : BitVec 32) (x : UInt8) (t : Nat) (ht : t < 8) : byteF s (flipB x t) = byteF s x ^^^ bitsF 8 (bitAt t) := by
  unfold byteF flipB
  rw [← bitsF_lin, of_xor, ← BitVec.xor_assoc]
  congr 2
  rcases (show t = 0 ∨ t = 1 ∨ t = 2 ∨ t = 3 ∨ t = 4 ∨ t = 5 ∨ t = 6 ∨ t = 7 by omega) with rfl | rfl | rfl | rfl | rfl | rfl | rfl | rfl <;> decide
theorem regF_flip (ys : List UInt8) (p t : Nat) (ht : t < 8) (hp : p < ys.length) (s : BitVec 32) :
    regF s (ys.set p (flipB ys[p] t)) = regF s ys ^^^ bitsF (8 * (ys.length - p)) (bitAt t) := by
  have e1 : ys = ys.take p ++ ys[p] :: ys.drop (p + 1) := by simp
  have e2 : ys.set p (flipB ys[p] t) = ys.take p ++ flipB ys[p] t :: ys.drop (p + 1) := by rw [List.set_eq_take_append_cons_drop]; simp [hp]
  have e3 : regF s ys = regF s (ys.take p ++ ys[p] :: ys.drop (p + 1)) := by rw [← e1]
  rw [e2, e3, regF_append, regF_append]
  simp only [regF, List.foldl_cons]
  rw [byteF_flip _ _ _ ht]
  have := regF_xor (ys.drop (p + 1)) (byteF (List.foldl byteF s (ys.take p)) ys[p]) (bitsF 8 (bitAt t))
  simp only [regF] at this
  rw [this, ← bitsF_add]
  congr 2
  simp; omega
theorem le4_bits (c : BitVec 32) (j : Nat) : (BitVec.ofNat 32 (UInt8.ofNat (c.toNat / 2 ^ j % 256)).toNat) = (c >>> j) &&& 255#32 := by
  apply BitVec.eq_of_toNat_eq
  have hc := c.isLt
  simp [BitVec.toNat_ushiftRight, Nat.shiftRight_eq_div_pow]
  rw [show (255 : Nat) = 2 ^ 8 - 1 by decide, Nat.and_two_pow_sub_one_eq_mod]
  omega
theorem regF_le4 (s c : BitVec 32) : regF s (le4 c) = bitsF 32 (s ^^^ c) := by
  have hc := c.isLt
  have h0 := le4_bits c 0
  have h1 := le4_bits c 8
  have h2 := le4_bits c 16
  have h3 := le4_bits c 24
  simp only [Nat.reducePow, Nat.div_one] at h0 h1 h2 h3
  have h3' : c.toNat / 16777216 % 256 = c.toNat / 16777216 := by omega
  rw [h3'] at h3
  have hdec : c = ((c >>> 0) &&& 255#32) ^^^ (((c >>> 8) &&& 255#32) <<< 8) ^^^ (((c >>> 16) &&& 255#32) <<< 16) ^^^ (((c >>> 24) &&& 255#32) <<< 24) := by
    have h255 : ∀ k : Nat, (255#32).getLsbD k = decide (k < 8) := by
      intro k
      by_cases hk : k < 32
      · have : ∀ k : Fin 32, (255#32).getLsbD k.val = decide (k.val < 8) := by decide
        exact this ⟨k, hk⟩
      · simp [show ¬ k < 8 by omega]; exact BitVec.getLsbD_of_ge _ _ (by omega)
    apply BitVec.eq_of_getLsbD_eq
    intro i hi
    simp only [BitVec.getLsbD_xor, BitVec.getLsbD_and, BitVec.getLsbD_shiftLeft, BitVec.getLsbD_ushiftRight, h255]
    rcases (show i < 8 ∨ (8 ≤ i ∧ i < 16) ∨ (16 ≤ i ∧ i < 24) ∨ (24 ≤ i ∧ i < 32) by omega) with h | h | h | h
    · simp [h, hi, show i < 16 by omega, show i < 24 by omega]
    · simp [hi, show ¬ i < 8 by omega, show i < 16 by omega, show i < 24 by omega, show i - 8 < 8 by omega, show 8 + (i - 8) = i by omega]
    · simp [hi, show ¬ i < 8 by omega, show ¬ i < 16 by omega, show i < 24 by omega, show i - 16 < 8 by omega, show ¬ i - 8 < 8 by omega, show 16 + (i - 16) = i by omega]
    · simp [hi, show ¬ i < 8 by omega, show ¬ i < 16 by omega, show ¬ i < 24 by omega, show i - 24 < 8 by omega, show ¬ i - 8 < 8 by omega, show ¬ i - 16 < 8 by omega, show 24 + (i - 24) = i by omega]
  have hsh : ∀ (x : BitVec 32) (n : Nat), n ≤ 24 → bitsF n ((x &&& 255#32) <<< n) = x &&& 255#32 := by
    intro x n hn
    rw [bitsF_shift _ _ (fun i hi => by simp [hi])]
    apply BitVec.eq_of_toNat_eq
    have h255 : (x &&& 255#32).toNat < 256 := by
      rw [BitVec.toNat_and]
      exact Nat.lt_of_le_of_lt Nat.and_le_right (by decide)
    generalize x &&& 255#32 = y at *
    rw [BitVec.toNat_ushiftRight, BitVec.toNat_shiftLeft, Nat.shiftLeft_eq, Nat.shiftRight_eq_div_pow]
    have hp : 2 ^ n ≤ 2 ^ 24 := Nat.pow_le_pow_right (by omega) hn
    have : y.toNat * 2 ^ n < 2 ^ 32 := by
      calc y.toNat * 2 ^ n < 256 * 2 ^ n := Nat.mul_lt_mul_of_pos_right h255 (Nat.two_pow_pos n)
        _ ≤ 256 * 2 ^ 24 := Nat.mul_le_mul_left _ hp
        _ = 2 ^ 32 := by decide
    rw [Nat.mod_eq_of_lt this, Nat.mul_div_cancel _ (Nat.two_pow_pos n)]
  simp only [le4, regF, List.foldl_cons, List.foldl_nil]
  unfold byteF
  rw [h0, h1, h2, h3]
  conv => rhs; rw [hdec]
  simp only [bitsF_lin, ← bitsF_add]
  have k1 : bitsF 32 (((c >>> 8) &&& 255#32) <<< 8) = bitsF 24 ((c >>> 8) &&& 255#32) := (bitsF_add 24 8 _).trans (by rw [hsh _ 8 (by omega)])
  have k2 : bitsF 32 (((c >>> 16) &&& 255#32) <<< 16) = bitsF 16 ((c >>> 16) &&& 255#32) := (bitsF_add 16 16 _).trans (by rw [hsh _ 16 (by omega)])
  have k3 : bitsF 32 (((c >>> 24) &&& 255#32) <<< 24) = bitsF 8 ((c >>> 24) &&& 255#32) := (bitsF_add 8 24 _).trans (by rw [hsh _ 24 (by omega)])
  rw [k1, k2, k3]
  simp only [Nat.reduceAdd, BitVec.xor_assoc]

/-! the turned frame -/
def allF (ys : List UInt8) : BitVec 32 := regF (~~~0#32) ys
/-- what the loop keeps: the header, and by how much the register has turned -/
def FlipI (xs : List UInt8) (h k i : Nat) (ys : List UInt8) (tu : Bool) : Prop :=
  ys.length = xs.length ∧ ys.take h = xs.take h ∧ (∃ P : BitVec 32, (∀ j, i ≤ j → P.getLsbD j = false) ∧ allF ys = allF xs ^^^ bitsF (8 * xs.length - k) P ∧ (tu = true → P ≠ 0#32)) ∧ (tu = false → ys = xs)
theorem FlipI.start (xs : List UInt8) (h k : Nat) : FlipI xs h k 0 xs false := by
  refine ⟨rfl, rfl, ⟨0#32, by simp, ?_, by simp⟩, fun _ => rfl⟩
  have : bitsF (8 * xs.length - k) 0#32 = 0#32 := by
    induction (8 * xs.length - k) with
    | zero => rfl
    | succ n ih => simp only [bitsF]; rw [ih]; decide
  rw [this, BitVec.xor_zero]
theorem FlipI.skip {xs ys : List UInt8} {h k i : Nat} {tu : Bool} (H : FlipI xs h k i ys tu) : FlipI xs h k (i + 1) ys tu := by
  obtain ⟨h1, h2, ⟨P, h3, h4, h5⟩, h6⟩ := H
  exact ⟨h1, h2, ⟨P, fun j hj => h3 j (by omega), h4, h5⟩, h6⟩
theorem FlipI.flip {xs ys : List UInt8} {h k i : Nat} {tu : Bool} (H : FlipI xs h k i ys tu) (hi : i < 32) (hk : 8 * h ≤ k) (hl : k + i < 8 * xs.length) (hp : (k + i) / 8 < ys.length) :
    FlipI xs h k (i + 1) (ys.set ((k + i) / 8) (flipB ys[(k + i) / 8] ((k + i) % 8))) true := by
  obtain ⟨h1, h2, ⟨P, h3, h4, h5⟩, h6⟩ := H
  refine ⟨by rw [List.length_set]; exact h1, ?_, ⟨P ^^^ bitAt i, fun j hj => ?_, ?_, fun _ hz => ?_⟩, fun hh => by cases hh⟩
  · rw [List.take_set_of_le (by omega)]; exact h2
  · rw [BitVec.getLsbD_xor, h3 j (by omega), bitAt_lsb i j hi]; simp; omega
  · unfold allF at h4 ⊢
    rw [regF_flip _ _ _ (by omega) hp, h4, bitsF_lin, BitVec.xor_assoc]
    congr 2
    exact bits_move _ _ _ _ hi (by omega) (by omega) (by omega) (by omega)
  · have := congrArg (fun x => x.getLsbD i) hz
    simp only [BitVec.getLsbD_xor, BitVec.getLsbD_zero] at this
    rw [h3 i (Nat.le_refl _), bitAt_lsb i i hi] at this
    simp at this
theorem FlipI.ne {xs ys : List UInt8} {h k i : Nat} (H : FlipI xs h k i ys true) : allF ys ≠ allF xs := by
  obtain ⟨h1, h2, ⟨P, h3, h4, h5⟩, h6⟩ := H
  intro e
  rw [h4] at e
  exact h5 rfl (bitsF_zero _ _ (xor_zero_iff _ _ e))
/-- a sum that fits closes the register -/
theorem allF_good (ys : List UInt8) : allF (ys ++ le4 (moreF 0#32 ys)) = bitsF 32 (~~~0#32) := by
  unfold allF moreF
  rw [regF_append, regF_le4]
  congr 1
  generalize regF (~~~0#32) ys = s
  have : ∀ s : BitVec 32, s ^^^ ~~~s = ~~~0#32 := by
    intro s
    apply BitVec.eq_of_getLsbD_eq
    intro i hi
    simp only [BitVec.getLsbD_xor, BitVec.getLsbD_not, hi, decide_true, Bool.true_and, BitVec.getLsbD_zero, Bool.not_false]
    cases s.getLsbD i <;> rfl
  exact this s
theorem frameF_all (xs : List UInt8) : allF (frameF xs) = bitsF 32 (~~~0#32) := by
  unfold frameF
  rw [more_append]
  exact allF_good _

theorem vint_back : ∀ (k i acc f : Nat) (pre rest : List UInt8), i + k = 9 → pre.length = i → f < 2 ^ (64 - 7 * i) → (0 < i → 0 < f) →
    numR (pre ++ vint k f ++ rest) (k + 1) i acc = (unfI (acc + f * 128 ^ i), i + (vint k f).length, 0)
  | 0, i, acc, f, pre, rest, hik, hl, hf, h0 => by
    have : i = 9 := by omega
    subst this
    have : f = 1 := by have := h0 (by omega); simp at hf; omega
    subst this
    simp only [vint, numR]
    rw [show (pre ++ [UInt8.ofNat 1] ++ rest)[9]? = some 1 by rw [List.append_assoc, List.getElem?_append_right (by omega), hl]; rfl]
    simp
  | k + 1, i, acc, f, pre, rest, hik, hl, hf, h0 => by
    by_cases h128 : f < 128
    · simp only [vint, h128, if_true, numR]
      rw [show (pre ++ [UInt8.ofNat f] ++ rest)[i]? = some (UInt8.ofNat f) by rw [List.append_assoc, List.getElem?_append_right (by omega), hl]; simp]
      have : (UInt8.ofNat f).toNat = f := by simp; omega
      simp only [this]
      rw [if_neg (by omega), if_neg (by omega), if_neg (by omega)]
      simp [Nat.mod_eq_of_lt h128]
    · simp only [vint, h128, if_false]
      rw [numR]
      have hb : (UInt8.ofNat (f % 128 + 128)).toNat = f % 128 + 128 := by simp; omega
      rw [show (pre ++ UInt8.ofNat (f % 128 + 128) :: vint k (f / 128) ++ rest)[i]? = some (UInt8.ofNat (f % 128 + 128)) by rw [List.append_assoc, List.getElem?_append_right (by omega), hl]; simp]
      simp only [hb]
      rw [if_neg (by omega), if_pos (by omega)]
      have hpow : 2 ^ (64 - 7 * i) = 128 * 2 ^ (64 - 7 * (i + 1)) := by
        rw [show (128 : Nat) = 2 ^ 7 by decide, ← Nat.pow_add]; congr 1; omega
      have ih := vint_back k (i + 1) (acc + (f % 128 + 128) % 128 * 128 ^ i) (f / 128) (pre ++ [UInt8.ofNat (f % 128 + 128)]) rest (by omega) (by simp [hl]) (by rw [hpow] at hf; omega) (by omega)
      rw [show pre ++ UInt8.ofNat (f % 128 + 128) :: vint k (f / 128) ++ rest = pre ++ [UInt8.ofNat (f % 128 + 128)] ++ vint k (f / 128) ++ rest by simp]
      rw [ih]
      have e1 : acc + (f % 128 + 128) % 128 * 128 ^ i + f / 128 * 128 ^ (i + 1) = acc + f * 128 ^ i := by
        rw [Nat.pow_succ, Nat.add_assoc, ← Nat.mul_assoc, Nat.mul_comm (f / 128 * 128 ^ i) 128, ← Nat.mul_assoc, ← Nat.add_mul]
        congr 2
        omega
      rw [e1]
      simp; omega
theorem numF_long (n : Nat) (rest : List UInt8) (hn : n ≤ 9223372036854775807) : numF (longF n ++ rest) = ((n : Int), (longF n).length, 0) := by
  have := vint_back 9 0 0 (2 * n) [] rest rfl rfl (by simp; omega) (by omega)
  simp only [List.nil_append, Nat.pow_zero, Nat.mul_one, Nat.zero_add] at this
  unfold numF longF
  rw [this]
  simp [unfI]
theorem longF_len (n : Nat) : (longF n).length ≤ 10 := vint_le 9 _
theorem cntF_long (n : Nat) (rest : List UInt8) (hn : n ≤ 1048576) : cntF ((longF n ++ rest).take 11) 1048576 = (n, (longF n).length, 0) := by
  have hl := longF_len n
  rw [List.take_append, List.take_of_length_le (by omega)]
  unfold cntF
  rw [numF_long n _ (by omega)]
  simp only [ne_eq, not_true_eq_false, if_false, Int.toNat_natCast]
  rw [if_neg (by omega), if_neg (by omega)]
/-- of bytes with the header of a frame of this length, what is got -/
theorem getN_header (n : Nat) (ys zs : List UInt8) (hn : n ≤ 1048576) (hy : ys = longF n ++ zs) (hz : zs.length = n + 4) :
    getN ys 0 = if zs.drop n ≠ le4 (moreF 0#32 (longF n ++ zs.take n)) then ([], 0, 4) else (zs.take n, (longF n).length + n + 4, 0) := by
  unfold getN
  simp only [List.drop_zero, Nat.zero_add]
  have hc := cntF_long n zs hn
  rw [← hy] at hc
  rw [hc]
  have hl : ys.length = (longF n).length + n + 4 := by rw [hy]; simp only [List.length_append]; omega
  rw [if_neg (by simp), if_neg (by simp only []; omega)]
  have e1 : ys.drop ((longF n).length + n) = zs.drop n := by rw [hy, List.drop_append, List.drop_of_length_le (by omega)]; simp
  have e2 : ys.take ((longF n).length + n) = longF n ++ zs.take n := by rw [hy, List.take_append, List.take_of_length_le (by omega)]; simp
  have e3 : ys.drop ((longF n).length) = zs := by rw [hy]; simp
  rw [e1, e2, e3]
  rw [List.take_of_length_le (by simp; omega)]
theorem getN_turned (x ys : List UInt8) (k i : Nat) (hx : x.length ≤ 1048576) (H : FlipI (frameF x) (longF x.length).length k i ys true) : getN ys 0 = ([], 0, 4) := by
  have hne := H.ne
  obtain ⟨h1, h2, -, -⟩ := H
  have ht : (frameF x).take (longF x.length).length = longF x.length := by unfold frameF; simp
  rw [ht] at h2
  have hy : ys = longF x.length ++ ys.drop (longF x.length).length := by
    have := (List.take_append_drop (longF x.length).length ys).symm
    rw [h2] at this
    exact this
  have hl : (frameF x).length = (longF x.length).length + x.length + 4 := by unfold frameF; simp [le4]; omega
  rw [getN_header x.length ys (ys.drop (longF x.length).length) hx hy (by simp; omega)]
  rw [if_pos]
  intro he
  apply hne
  rw [frameF_all, hy]
  generalize ys.drop (longF x.length).length = zs at *
  rw [← List.take_append_drop x.length zs, he, ← List.append_assoc]
  exact allF_good _
theorem getN_back (x : List UInt8) (hx : x.length ≤ 1048576) : getN (frameF x) 0 = (x, (frameF x).length, 0) := by
  have hl : (frameF x).length = (longF x.length).length + x.length + 4 := by unfold frameF; simp [le4]; omega
  rw [getN_header x.length (frameF x) (x ++ le4 (moreF 0#32 (longF x.length ++ x))) hx (by unfold frameF; rw [more_append]; simp) (by simp [le4])]
  rw [if_neg (by simp), hl]
  simp
end Go.Proofs.Ythigpdalmdmebaa
