/- The hash of package sip, as plain numbers: rotation, round, a block's word, the state after blocks, the sum. -/
import Derived.WalkKit
namespace Go.Proofs.Ythaikobmelalgaa

def rotN (x n : Nat) : Nat := (x * 2 ^ n % 18446744073709551616) ||| (x / 2 ^ (64 - n))

theorem rotN_lt (x n : Nat) (hx : x < 18446744073709551616) : rotN x n < 18446744073709551616 :=
  Nat.or_lt_two_pow (n := 64) (Nat.mod_lt _ (by decide)) (Nat.lt_of_le_of_lt (Nat.div_le_self _ _) hx)

/-- The four numbers of a state. -/
structure St where
  a : Nat
  b : Nat
  c : Nat
  d : Nat
deriving DecidableEq

def St.ok (s : St) : Prop := s.a < 18446744073709551616 ∧ s.b < 18446744073709551616 ∧ s.c < 18446744073709551616 ∧ s.d < 18446744073709551616

def roundN (s : St) : St :=
  let a1 := (s.a + s.b) % 18446744073709551616
  let b1 := rotN s.b 13 ^^^ a1
  let a2 := rotN a1 32
  let c1 := (s.c + s.d) % 18446744073709551616
  let d1 := rotN s.d 16 ^^^ c1
  let a3 := (a2 + d1) % 18446744073709551616
  let d2 := rotN d1 21 ^^^ a3
  let c2 := (c1 + b1) % 18446744073709551616
  let b2 := rotN b1 17 ^^^ c2
  let c3 := rotN c2 32
  ⟨a3, b2, c3, d2⟩

theorem xor_lt' {x y : Nat} (hx : x < 18446744073709551616) (hy : y < 18446744073709551616) : x ^^^ y < 18446744073709551616 := Nat.xor_lt_two_pow (n := 64) hx hy
theorem mod_lt' (x : Nat) : x % 18446744073709551616 < 18446744073709551616 := Nat.mod_lt _ (by decide)

theorem roundN_ok (s : St) (h : s.ok) : (roundN s).ok := by
  obtain ⟨_, hb, _, hd⟩ := h
  have b1 := xor_lt' (rotN_lt s.b 13 hb) (mod_lt' (s.a + s.b))
  have d1 := xor_lt' (rotN_lt s.d 16 hd) (mod_lt' (s.c + s.d))
  exact ⟨mod_lt' _, xor_lt' (rotN_lt _ _ b1) (mod_lt' _), rotN_lt _ _ (mod_lt' _), xor_lt' (rotN_lt _ _ d1) (mod_lt' _)⟩

def takeN (s : St) (m : Nat) : St :=
  let r := roundN (roundN { s with d := s.d ^^^ m })
  { r with a := r.a ^^^ m }

theorem takeN_ok (s : St) (m : Nat) (h : s.ok) (hm : m < 18446744073709551616) : (takeN s m).ok := by
  have h1 : ({ s with d := s.d ^^^ m } : St).ok := ⟨h.1, h.2.1, h.2.2.1, xor_lt' h.2.2.2 hm⟩
  have h2 := roundN_ok _ (roundN_ok _ h1)
  exact ⟨xor_lt' h2.1 hm, h2.2.1, h2.2.2.1, h2.2.2.2⟩

def beginN (k0 k1 : Nat) : St := ⟨k0 ^^^ 8317987319222330741, k1 ^^^ 7237128888997146477, k0 ^^^ 7816392313619706465, k1 ^^^ 8387220255154660723⟩

theorem beginN_ok (k0 k1 : Nat) (h0 : k0 < 18446744073709551616) (h1 : k1 < 18446744073709551616) : (beginN k0 k1).ok :=
  ⟨xor_lt' h0 (by decide), xor_lt' h1 (by decide), xor_lt' h0 (by decide), xor_lt' h1 (by decide)⟩

/-- The number of some bytes, the lowest first. -/
def wordN : List Nat → Nat
  | [] => 0
  | b :: l => wordN l * 256 + b

theorem wordN_lt (l : List Nat) (h : ∀ x ∈ l, x < 256) : wordN l < 256 ^ l.length := by
  induction l with
  | nil => simp [wordN]
  | cons b l ih =>
    have := ih fun x hx => h x (by simp [hx])
    have hb := h b (by simp)
    rw [wordN, List.length_cons, Nat.pow_succ]
    omega

theorem word8_lt (l : List Nat) (hl : l.length = 8) (h : ∀ x ∈ l, x < 256) : wordN l < 18446744073709551616 := by
  have := wordN_lt l h
  rw [hl] at this
  simpa using this

theorem wordN_drop (l : List Nat) (i : Nat) (h : i < l.length) : wordN (l.drop i) = wordN (l.drop (i + 1)) * 256 + l[i] := by
  rw [List.drop_eq_getElem_cons h, wordN]

/-- The word of block number i. -/
def blkN (l : List Nat) (i : Nat) : Nat := wordN ((l.drop (8 * i)).take 8)

theorem blkN_lt (l : List Nat) (i : Nat) (h : ∀ x ∈ l, x < 256) : blkN l i < 18446744073709551616 := by
  have h1 := wordN_lt ((l.drop (8 * i)).take 8) fun x hx => h x (List.mem_of_mem_drop (List.mem_of_mem_take hx))
  have h2 : ((l.drop (8 * i)).take 8).length ≤ 8 := by simp; omega
  exact Nat.lt_of_lt_of_le h1 (Nat.le_trans (Nat.pow_le_pow_right (by decide) h2) (by decide))

/-- The state after n whole blocks. -/
def afterN (s : St) (l : List Nat) : Nat → St
  | 0 => s
  | n + 1 => takeN (afterN s l n) (blkN l n)

theorem afterN_ok (s : St) (l : List Nat) (n : Nat) (hs : s.ok) (h : ∀ x ∈ l, x < 256) : (afterN s l n).ok := by
  induction n with
  | zero => exact hs
  | succ n ih => exact takeN_ok _ _ ih (blkN_lt l n h)

theorem blkN_append (l m : List Nat) (i : Nat) (h : 8 * (i + 1) ≤ l.length) : blkN (l ++ m) i = blkN l i := by
  unfold blkN
  rw [List.drop_append_of_le_length (by omega), List.take_append_of_le_length (by simp; omega)]

theorem afterN_append (s : St) (l m : List Nat) (n : Nat) (h : 8 * n ≤ l.length) : afterN s (l ++ m) n = afterN s l n := by
  induction n with
  | zero => rfl
  | succ n ih => rw [afterN, afterN, ih (by omega), blkN_append l m n h]

/-- The bytes that are left, the others 0: eight in all. -/
def restN (l : List Nat) : List Nat := l.drop (8 * (l.length / 8)) ++ List.replicate (8 - l.length % 8) 0

theorem restN_len (l : List Nat) : (restN l).length = 8 := by
  simp only [restN, List.length_append, List.length_drop, List.length_replicate]
  omega

theorem restN_lt (l : List Nat) (h : ∀ x ∈ l, x < 256) : ∀ x ∈ restN l, x < 256 := by
  intro x hx
  unfold restN at hx
  rcases List.mem_append.1 hx with hx | hx
  · exact h x (List.mem_of_mem_drop hx)
  · have := (List.mem_replicate.1 hx).2; omega

def finishN (v : St) : Nat :=
  let r := roundN (roundN (roundN (roundN { v with c := v.c ^^^ 255 })))
  r.a ^^^ r.b ^^^ r.c ^^^ r.d

/-- The hash of bytes. -/
def sipN (k0 k1 : Nat) (l : List Nat) : Nat :=
  finishN (takeN (afterN (beginN k0 k1) l (l.length / 8)) (wordN ((restN l).set 7 (l.length % 256))))

theorem finishN_lt (v : St) (h : v.ok) : finishN v < 18446744073709551616 := by
  have h1 : ({ v with c := v.c ^^^ 255 } : St).ok := ⟨h.1, h.2.1, xor_lt' h.2.2.1 (by decide), h.2.2.2⟩
  have h2 := roundN_ok _ (roundN_ok _ (roundN_ok _ (roundN_ok _ h1)))
  exact xor_lt' (xor_lt' (xor_lt' h2.1 h2.2.1) h2.2.2.1) h2.2.2.2

/-- A byte more, no block full: it lies among the rest. -/
theorem restN_more (l : List Nat) (b : Nat) (h : l.length % 8 ≠ 7) : restN (l ++ [b]) = (restN l).set (l.length % 8) b := by
  unfold restN
  have e1 : (l ++ [b]).length / 8 = l.length / 8 := by simp; omega
  have e2 : (l ++ [b]).length % 8 = l.length % 8 + 1 := by simp; omega
  rw [e1, e2, List.drop_append_of_le_length (by omega), List.set_append_right _ _ (by simp; omega)]
  have e3 : l.length % 8 - (l.drop (8 * (l.length / 8))).length = 0 := by simp; omega
  rw [e3, show 8 - l.length % 8 = (8 - (l.length % 8 + 1)) + 1 by omega, List.replicate_succ]
  simp

/-- A byte more that fills a block: the block, and nothing left. -/
theorem restN_full (l : List Nat) (b : Nat) (h : l.length % 8 = 7) : wordN ((restN l).set 7 b) = blkN (l ++ [b]) (l.length / 8) ∧ restN (l ++ [b]) = List.replicate 8 0 ∧ (l ++ [b]).length / 8 = l.length / 8 + 1 := by
  have e1 : (l ++ [b]).length / 8 = l.length / 8 + 1 := by simp; omega
  have e2 : (l ++ [b]).length % 8 = 0 := by simp; omega
  refine ⟨?_, ?_, e1⟩
  · unfold restN blkN
    rw [h, List.set_append_right _ _ (by simp; omega)]
    have e3 : 7 - (l.drop (8 * (l.length / 8))).length = 0 := by simp; omega
    rw [e3, List.drop_append_of_le_length (by omega), List.take_of_length_le (by simp; omega)]
    rfl
  · unfold restN
    rw [e1, e2, List.drop_of_length_le (by simp; omega)]
    rfl

/-- The padded bytes of the document. -/
def padN (l : List Nat) : List Nat := l ++ List.replicate (7 - l.length % 8) 0 ++ [l.length % 256]

theorem padN_len (l : List Nat) : (padN l).length = 8 * (l.length / 8 + 1) := by
  simp [padN]; omega

theorem pad_sum (k0 k1 : Nat) (l : List Nat) : finishN (afterN (beginN k0 k1) (padN l) (l.length / 8 + 1)) = sipN k0 k1 l := by
  unfold sipN
  rw [afterN, padN, List.append_assoc, afterN_append _ _ _ _ (by omega)]
  congr 2
  unfold blkN restN
  rw [List.drop_append_of_le_length (by omega), List.take_of_length_le (by simp; omega), List.set_append_right _ _ (by simp; omega)]
  have e3 : 7 - (l.drop (8 * (l.length / 8))).length = 7 - l.length % 8 := by simp; omega
  rw [e3, show 8 - l.length % 8 = (7 - l.length % 8) + 1 by omega, List.replicate_succ', List.set_append_right _ _ (by simp)]
  simp

theorem sipN_lt (k0 k1 : Nat) (l : List Nat) (h0 : k0 < 18446744073709551616) (h1 : k1 < 18446744073709551616) (hl : ∀ x ∈ l, x < 256) : sipN k0 k1 l < 18446744073709551616 := by
  refine finishN_lt _ (takeN_ok _ _ (afterN_ok _ _ _ (beginN_ok _ _ h0 h1) hl) (word8_lt _ (by simp [restN_len]) ?_))
  intro x hx
  rcases List.mem_or_eq_of_mem_set hx with hx | rfl
  · exact restN_lt l hl x hx
  · exact Nat.mod_lt _ (by decide)

/-- The examples. -/
def exK0 : Nat := 506097522914230528
def exK1 : Nat := 1084818905618843912
theorem ex0 : sipN exK0 exK1 [] = 8246050544436514353 := by decide +kernel
theorem ex1 : sipN exK0 exK1 [0] = 8428550223375919101 := by decide +kernel
theorem ex2 : sipN exK0 exK1 [0, 1] = 967288799772626778 := by decide +kernel
theorem ex8 : sipN exK0 exK1 [0, 1, 2, 3, 4, 5, 6, 7] = 10661697595502699618 := by decide +kernel
theorem ex15 : sipN exK0 exK1 [0, 1, 2, 3, 4, 5, 6, 7, 8, 9, 10, 11, 12, 13, 14] = 11613035633349379557 := by decide +kernel

end Go.Proofs.Ythaikobmelalgaa
