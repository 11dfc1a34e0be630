/- The hash of package sip, as plain numbers: rotation, round, a block's word, the state after blocks, the sum. The walks of package sip and of its document: rotation. The walks of package sip: a round. The walks of package sip: begin, take, before. The walks of package sip: the hash in memory; before, New, Len, Copy. The walks of package sip: Write, Sum. The walks of package sip: the Hash's Sum, the package's Sum. The walks of package sip and of its document: Sum. -/
import Derived.WalkKit
import Derived.Test.YtgdnfempcjlipaaChecked
import Derived.Test.YtgdnfempcjlipaaBaseZ
import Derived.WalkLawsBesides
import Derived.Outline
import Derived.Deep.QuietTactic
import Derived.BigQuiet
import Derived.Laws.Bits64
import Derived.Laws.Bits64b
import Derived.RegionTactic
import Derived.BigRegion
import Derived.StillTailTactics
import Derived.Deep.RegionHeld3
import Derived.Deep.Cut
import Derived.LoopTactic
import Derived.Deep.WholeRow
import Derived.Deep.DeepMust

namespace Go.Proofs.Ytgdnfempcjlipaa.Si

def rotN (x n : Nat) : Nat := (x * 2 ^ n % 18446744073709551616) ||| (x / 2 ^ (64 - n))

set_option maxRecDepth 100000 in
theorem rotN_lt (x n : Nat) (hx : x < 18446744073709551616) : rotN x n < 18446744073709551616 :=
  Nat.or_lt_two_pow (n := 64) (Nat.mod_lt _ (by decide)) (Nat.lt_of_le_of_lt (Nat.div_le_self _ _) hx)

/-- The four numbers of a state. -/
structure St where
  a : Nat
  b : Nat
  c : Nat
  d : Nat
deriving DecidableEq

def St.ok (s : St) : Prop := s.a < 18446744073709551616 ∧ s.b < 18446744073709551616 ∧ s.c < 18446744073709551616 ∧ s.d < 18446744073709551616

def roundN (s : St) : St :=
  let a1 := (s.a + s.b) % 18446744073709551616
  let b1 := rotN s.b 13 ^^^ a1
  let a2 := rotN a1 32
  let c1 := (s.c + s.d) % 18446744073709551616
  let d1 := rotN s.d 16 ^^^ c1
  let a3 := (a2 + d1) % 18446744073709551616
  let d2 := rotN d1 21 ^^^ a3
  let c2 := (c1 + b1) % 18446744073709551616
  let b2 := rotN b1 17 ^^^ c2
  let c3 := rotN c2 32
  ⟨a3, b2, c3, d2⟩

set_option maxRecDepth 100000 in
theorem xor_lt' {x y : Nat} (hx : x < 18446744073709551616) (hy : y < 18446744073709551616) : x ^^^ y < 18446744073709551616 := Nat.xor_lt_two_pow (n := 64) hx hy
set_option maxRecDepth 100000 in
theorem mod_lt' (x : Nat) : x % 18446744073709551616 < 18446744073709551616 := Nat.mod_lt _ (by decide)

set_option maxRecDepth 100000 in
theorem roundN_ok (s : St) (h : s.ok) : (roundN s).ok := by
  obtain ⟨_, hb, _, hd⟩ := h
  have b1 := xor_lt' (rotN_lt s.b 13 hb) (mod_lt' (s.a + s.b))
  have d1 := xor_lt' (rotN_lt s.d 16 hd) (mod_lt' (s.c + s.d))
  exact ⟨mod_lt' _, xor_lt' (rotN_lt _ _ b1) (mod_lt' _), rotN_lt _ _ (mod_lt' _), xor_lt' (rotN_lt _ _ d1) (mod_lt' _)⟩

def takeN (s : St) (m : Nat) : St :=
  let r := roundN (roundN { s with d := s.d ^^^ m })
  { r with a := r.a ^^^ m }

set_option maxRecDepth 100000 in
theorem takeN_ok (s : St) (m : Nat) (h : s.ok) (hm : m < 18446744073709551616) : (takeN s m).ok := by
  have h1 : ({ s with d := s.d ^^^ m } : St).ok := ⟨h.1, h.2.1, h.2.2.1, xor_lt' h.2.2.2 hm⟩
  have h2 := roundN_ok _ (roundN_ok _ h1)
  exact ⟨xor_lt' h2.1 hm, h2.2.1, h2.2.2.1, h2.2.2.2⟩

def beginN (k0 k1 : Nat) : St := ⟨k0 ^^^ 8317987319222330741, k1 ^^^ 7237128888997146477, k0 ^^^ 7816392313619706465, k1 ^^^ 8387220255154660723⟩

set_option maxRecDepth 100000 in
theorem beginN_ok (k0 k1 : Nat) (h0 : k0 < 18446744073709551616) (h1 : k1 < 18446744073709551616) : (beginN k0 k1).ok :=
  ⟨xor_lt' h0 (by decide), xor_lt' h1 (by decide), xor_lt' h0 (by decide), xor_lt' h1 (by decide)⟩

/-- The number of some bytes, the lowest first. -/
def wordN : List Nat → Nat
  | [] => 0
  | b :: l => wordN l * 256 + b

set_option maxRecDepth 100000 in
theorem wordN_lt (l : List Nat) (h : ∀ x ∈ l, x < 256) : wordN l < 256 ^ l.length := by
  induction l with
  | nil => simp [wordN]
  | cons b l ih =>
    have := ih fun x hx => h x (by simp [hx])
    have hb := h b (by simp)
    rw [wordN, List.length_cons, Nat.pow_succ]
    omega

set_option maxRecDepth 100000 in
theorem word8_lt (l : List Nat) (hl : l.length = 8) (h : ∀ x ∈ l, x < 256) : wordN l < 18446744073709551616 := by
  have := wordN_lt l h
  rw [hl] at this
  simpa using this

set_option maxRecDepth 100000 in
theorem wordN_drop (l : List Nat) (i : Nat) (h : i < l.length) : wordN (l.drop i) = wordN (l.drop (i + 1)) * 256 + l[i] := by
  rw [List.drop_eq_getElem_cons h, wordN]

/-- The word of block number i. -/
def blkN (l : List Nat) (i : Nat) : Nat := wordN ((l.drop (8 * i)).take 8)

set_option maxRecDepth 100000 in
theorem blkN_lt (l : List Nat) (i : Nat) (h : ∀ x ∈ l, x < 256) : blkN l i < 18446744073709551616 := by
  have h1 := wordN_lt ((l.drop (8 * i)).take 8) fun x hx => h x (List.mem_of_mem_drop (List.mem_of_mem_take hx))
  have h2 : ((l.drop (8 * i)).take 8).length ≤ 8 := by simp; omega
  exact Nat.lt_of_lt_of_le h1 (Nat.le_trans (Nat.pow_le_pow_right (by decide) h2) (by decide))

/-- The state after n whole blocks. -/
def afterN (s : St) (l : List Nat) : Nat → St
  | 0 => s
  | n + 1 => takeN (afterN s l n) (blkN l n)

set_option maxRecDepth 100000 in
theorem afterN_ok (s : St) (l : List Nat) (n : Nat) (hs : s.ok) (h : ∀ x ∈ l, x < 256) : (afterN s l n).ok := by
  induction n with
  | zero => exact hs
  | succ n ih => exact takeN_ok _ _ ih (blkN_lt l n h)

set_option maxRecDepth 100000 in
theorem blkN_append (l m : List Nat) (i : Nat) (h : 8 * (i + 1) ≤ l.length) : blkN (l ++ m) i = blkN l i := by
  unfold blkN
  rw [List.drop_append_of_le_length (by omega), List.take_append_of_le_length (by simp; omega)]

set_option maxRecDepth 100000 in
theorem afterN_append (s : St) (l m : List Nat) (n : Nat) (h : 8 * n ≤ l.length) : afterN s (l ++ m) n = afterN s l n := by
  induction n with
  | zero => rfl
  | succ n ih => rw [afterN, afterN, ih (by omega), blkN_append l m n h]

/-- The bytes that are left, the others 0: eight in all. -/
def restN (l : List Nat) : List Nat := l.drop (8 * (l.length / 8)) ++ List.replicate (8 - l.length % 8) 0

set_option maxRecDepth 100000 in
theorem restN_len (l : List Nat) : (restN l).length = 8 := by
  simp only [restN, List.length_append, List.length_drop, List.length_replicate]
  omega

set_option maxRecDepth 100000 in
theorem restN_lt (l : List Nat) (h : ∀ x ∈ l, x < 256) : ∀ x ∈ restN l, x < 256 := by
  intro x hx
  unfold restN at hx
  rcases List.mem_append.1 hx with hx | hx
  · exact h x (List.mem_of_mem_drop hx)
  · have := (List.mem_replicate.1 hx).2; omega

def finishN (v : St) : Nat :=
  let r := roundN (roundN (roundN (roundN { v with c := v.c ^^^ 255 })))
  r.a ^^^ r.b ^^^ r.c ^^^ r.d

/-- The hash of bytes. -/
def sipN (k0 k1 : Nat) (l : List Nat) : Nat :=
  finishN (takeN (afterN (beginN k0 k1) l (l.length / 8)) (wordN ((restN l).set 7 (l.length % 256))))

set_option maxRecDepth 100000 in
theorem finishN_lt (v : St) (h : v.ok) : finishN v < 18446744073709551616 := by
  have h1 : ({ v with c := v.c ^^^ 255 } : St).ok := ⟨h.1, h.2.1, xor_lt' h.2.2.1 (by decide), h.2.2.2⟩
  have h2 := roundN_ok _ (roundN_ok _ (roundN_ok _ (roundN_ok _ h1)))
  exact xor_lt' (xor_lt' (xor_lt' h2.1 h2.2.1) h2.2.2.1) h2.2.2.2

set_option maxRecDepth 100000 in
/-- A byte more, no block full: it lies among the rest. -/
theorem restN_more (l : List Nat) (b : Nat) (h : l.length % 8 ≠ 7) : restN (l ++ [b]) = (restN l).set (l.length % 8) b := by
  unfold restN
  have e1 : (l ++ [b]).length / 8 = l.length / 8 := by simp; omega
  have e2 : (l ++ [b]).length % 8 = l.length % 8 + 1 := by simp; omega
  rw [e1, e2, List.drop_append_of_le_length (by omega), List.set_append_right _ _ (by simp; omega)]
  have e3 : l.length % 8 - (l.drop (8 * (l.length / 8))).length = 0 := by simp; omega
  rw [e3, show 8 - l.length % 8 = (8 - (l.length % 8 + 1)) + 1 by omega, List.replicate_succ]
  simp

set_option maxRecDepth 100000 in
/-- A byte more that fills a block: the block, and nothing left. -/
theorem restN_full (l : List Nat) (b : Nat) (h : l.length % 8 = 7) : wordN ((restN l).set 7 b) = blkN (l ++ [b]) (l.length / 8) ∧ restN (l ++ [b]) = List.replicate 8 0 ∧ (l ++ [b]).length / 8 = l.length / 8 + 1 := by
  have e1 : (l ++ [b]).length / 8 = l.length / 8 + 1 := by simp; omega
  have e2 : (l ++ [b]).length % 8 = 0 := by simp; omega
  refine ⟨?_, ?_, e1⟩
  · unfold restN blkN
    rw [h, List.set_append_right _ _ (by simp; omega)]
    have e3 : 7 - (l.drop (8 * (l.length / 8))).length = 0 := by simp; omega
    rw [e3, List.drop_append_of_le_length (by omega), List.take_of_length_le (by simp; omega)]
    rfl
  · unfold restN
    rw [e1, e2, List.drop_of_length_le (by simp; omega)]
    rfl

/-- The padded bytes of the document. -/
def padN (l : List Nat) : List Nat := l ++ List.replicate (7 - l.length % 8) 0 ++ [l.length % 256]

set_option maxRecDepth 100000 in
theorem padN_len (l : List Nat) : (padN l).length = 8 * (l.length / 8 + 1) := by
  simp [padN]; omega

set_option maxRecDepth 100000 in
theorem pad_sum (k0 k1 : Nat) (l : List Nat) : finishN (afterN (beginN k0 k1) (padN l) (l.length / 8 + 1)) = sipN k0 k1 l := by
  unfold sipN
  rw [afterN, padN, List.append_assoc, afterN_append _ _ _ _ (by omega)]
  congr 2
  unfold blkN restN
  rw [List.drop_append_of_le_length (by omega), List.take_of_length_le (by simp; omega), List.set_append_right _ _ (by simp; omega)]
  have e3 : 7 - (l.drop (8 * (l.length / 8))).length = 7 - l.length % 8 := by simp; omega
  rw [e3, show 8 - l.length % 8 = (7 - l.length % 8) + 1 by omega, List.replicate_succ', List.set_append_right _ _ (by simp)]
  simp

set_option maxRecDepth 100000 in
theorem sipN_lt (k0 k1 : Nat) (l : List Nat) (h0 : k0 < 18446744073709551616) (h1 : k1 < 18446744073709551616) (hl : ∀ x ∈ l, x < 256) : sipN k0 k1 l < 18446744073709551616 := by
  refine finishN_lt _ (takeN_ok _ _ (afterN_ok _ _ _ (beginN_ok _ _ h0 h1) hl) (word8_lt _ (by simp [restN_len]) ?_))
  intro x hx
  rcases List.mem_or_eq_of_mem_set hx with hx | rfl
  · exact restN_lt l hl x hx
  · exact Nat.mod_lt _ (by decide)

/-- The examples. -/
def exK0 : Nat := 506097522914230528
def exK1 : Nat := 1084818905618843912
set_option maxRecDepth 100000 in
theorem ex0 : sipN exK0 exK1 [] = 8246050544436514353 := by decide +kernel
set_option maxRecDepth 100000 in
theorem ex1 : sipN exK0 exK1 [0] = 8428550223375919101 := by decide +kernel
set_option maxRecDepth 100000 in
theorem ex2 : sipN exK0 exK1 [0, 1] = 967288799772626778 := by decide +kernel
set_option maxRecDepth 100000 in
theorem ex8 : sipN exK0 exK1 [0, 1, 2, 3, 4, 5, 6, 7] = 10661697595502699618 := by decide +kernel
set_option maxRecDepth 100000 in
theorem ex15 : sipN exK0 exK1 [0, 1, 2, 3, 4, 5, 6, 7, 8, 9, 10, 11, 12, 13, 14] = 11613035633349379557 := by decide +kernel

end Go.Proofs.Ytgdnfempcjlipaa.Si

namespace Go.Proofs.Ytgdnfempcjlipaa.Si
open Go.RowKit

set_option maxRecDepth 100000 in
theorem ret_int {k : IntKind} {a b : Int} (h : a = b) : Ending.returned (.int k a) = .returned (.int k b) := by rw [h]

set_option maxRecDepth 100000 in
theorem rot_eq (x n m : Nat) (p q : Int) (hp : p = ((2 ^ n : Nat) : Int)) (hq : q = ((2 ^ m : Nat) : Int)) (hm : m = 64 - n) (hx : x < 18446744073709551616) :
    bits .or .u64 (IntKind.u64.wrap ((x : Int) * p)) ((x : Int) / q) = ((rotN x n : Nat) : Int) := by
  subst hp; subst hq; subst hm
  rw [IntKind.wrap_u64, show ((x : Int) * ((2 ^ n : Nat) : Int) % 18446744073709551616) = ((x * 2 ^ n % 18446744073709551616 : Nat) : Int) by rw [← Int.natCast_mul]; omega,
    show ((x : Int) / ((2 ^ (64 - n) : Nat) : Int)) = ((x / 2 ^ (64 - n) : Nat) : Int) by rw [← Int.natCast_ediv],
    bits_or_u64_nat _ _ (Nat.mod_lt _ (by decide)) (Nat.lt_of_le_of_lt (Nat.div_le_self _ _) hx)]
  rfl

set_option maxRecDepth 100000 in
theorem rot13 (x : Nat) (hx : x < 18446744073709551616) (w : World) :
    Calls Try.prog 82 #[.int .u64 x, .int .i64 13] w fun e w' => e = .returned (.int .u64 (rotN x 13 : Nat)) ∧ w = w' := by
  have hb : bits .and .u64 13 63 = 13 := by decide
  go_enter Try.func82, Try.ntmps82
  go_wp2
  go_ret
  exact ⟨ret_int (rot_eq x 13 51 _ _ (by decide) (by decide) rfl hx), rfl⟩

set_option maxRecDepth 100000 in
theorem rot16 (x : Nat) (hx : x < 18446744073709551616) (w : World) :
    Calls Try.prog 82 #[.int .u64 x, .int .i64 16] w fun e w' => e = .returned (.int .u64 (rotN x 16 : Nat)) ∧ w = w' := by
  have hb : bits .and .u64 16 63 = 16 := by decide
  go_enter Try.func82, Try.ntmps82
  go_wp2
  go_ret
  exact ⟨ret_int (rot_eq x 16 48 _ _ (by decide) (by decide) rfl hx), rfl⟩

set_option maxRecDepth 100000 in
theorem rot17 (x : Nat) (hx : x < 18446744073709551616) (w : World) :
    Calls Try.prog 82 #[.int .u64 x, .int .i64 17] w fun e w' => e = .returned (.int .u64 (rotN x 17 : Nat)) ∧ w = w' := by
  have hb : bits .and .u64 17 63 = 17 := by decide
  go_enter Try.func82, Try.ntmps82
  go_wp2
  go_ret
  exact ⟨ret_int (rot_eq x 17 47 _ _ (by decide) (by decide) rfl hx), rfl⟩

set_option maxRecDepth 100000 in
theorem rot21 (x : Nat) (hx : x < 18446744073709551616) (w : World) :
    Calls Try.prog 82 #[.int .u64 x, .int .i64 21] w fun e w' => e = .returned (.int .u64 (rotN x 21 : Nat)) ∧ w = w' := by
  have hb : bits .and .u64 21 63 = 21 := by decide
  go_enter Try.func82, Try.ntmps82
  go_wp2
  go_ret
  exact ⟨ret_int (rot_eq x 21 43 _ _ (by decide) (by decide) rfl hx), rfl⟩

set_option maxRecDepth 100000 in
theorem rot32 (x : Nat) (hx : x < 18446744073709551616) (w : World) :
    Calls Try.prog 82 #[.int .u64 x, .int .i64 32] w fun e w' => e = .returned (.int .u64 (rotN x 32 : Nat)) ∧ w = w' := by
  have hb : bits .and .u64 32 63 = 32 := by decide
  go_enter Try.func82, Try.ntmps82
  go_wp2
  go_ret
  exact ⟨ret_int (rot_eq x 32 32 _ _ (by decide) (by decide) rfl hx), rfl⟩

end Go.Proofs.Ytgdnfempcjlipaa.Si

namespace Go.Proofs.Ytgdnfempcjlipaa.Si
open Go.RowKit

def stV (s : St) : Array Value := #[.int .u64 s.a, .int .u64 s.b, .int .u64 s.c, .int .u64 s.d]

set_option maxRecDepth 100000 in
theorem add_nat (x y : Nat) : IntKind.u64.wrap ((x : Int) + (y : Int)) = (((x + y) % 18446744073709551616 : Nat) : Int) := by
  rw [IntKind.wrap_u64]; omega
set_option maxRecDepth 100000 in
theorem xor_nat (x y : Nat) (hx : x < 18446744073709551616) (hy : y < 18446744073709551616) : bits .xor .u64 (x : Int) (y : Int) = ((x ^^^ y : Nat) : Int) := bits_xor_u64_nat x y hx hy

set_option maxRecDepth 100000 in
/-- A region that draws, reads and calls quietly, and ends in a forced tail; its world under a name. -/
theorem region_tail {P : Program} {id : Nat} {Q : Exit → Act → World → Prop} {a : Act} {w : World} {l : List Oper} (n : Nat) (hm : P.follows .mixedOrders = true) (hB : Region.lexTailB .any l.toArray n = true)
    (h : ∀ w2, w2 = w.drew → wpStill P l.toArray w2 (fun a' => wpList P l.toArray Q (l.drop n) a' w2) (l.take n) a) : (Code.region id l.toArray true).wp P Q a w :=
  wp_region_still_tail n hm hB (h _ rfl)

/-- The block q holds the state s. -/
def StAt (w : World) (q t a b c d : Nat) : Prop := w.heap[q]? = some (.cells #[.int .u64 a, .int .u64 b, .int .u64 c, .int .u64 d] t (0, 0))

set_option maxRecDepth 100000 in
theorem StAt.c0 {w : World} {q t a b c d : Nat} (h : StAt w q t a b c d) : w.cell? ⟨q, 0, none⟩ = some (.int .u64 a) := (cell_of h).trans rfl
set_option maxRecDepth 100000 in
theorem StAt.c1 {w : World} {q t a b c d : Nat} (h : StAt w q t a b c d) : w.cell? ⟨q, 1, none⟩ = some (.int .u64 b) := (cell_of h).trans rfl
set_option maxRecDepth 100000 in
theorem StAt.c2 {w : World} {q t a b c d : Nat} (h : StAt w q t a b c d) : w.cell? ⟨q, 2, none⟩ = some (.int .u64 c) := (cell_of h).trans rfl
set_option maxRecDepth 100000 in
theorem StAt.c3 {w : World} {q t a b c d : Nat} (h : StAt w q t a b c d) : w.cell? ⟨q, 3, none⟩ = some (.int .u64 d) := (cell_of h).trans rfl
set_option maxRecDepth 100000 in
theorem StAt.fr {w : World} {q t a b c d : Nat} (h : StAt w q t a b c d) (i : Nat) : w.frozen? ⟨q, i, none⟩ = false := free_of h
set_option maxRecDepth 100000 in
theorem StAt.s0 {w : World} {q t a b c d : Nat} (h : StAt w q t a b c d) (x : Nat) : StAt (w.setCell ⟨q, 0, none⟩ (.int .u64 x)) q t x b c d := heap_set h _
set_option maxRecDepth 100000 in
theorem StAt.s1 {w : World} {q t a b c d : Nat} (h : StAt w q t a b c d) (x : Nat) : StAt (w.setCell ⟨q, 1, none⟩ (.int .u64 x)) q t a x c d := heap_set h _
set_option maxRecDepth 100000 in
theorem StAt.s2 {w : World} {q t a b c d : Nat} (h : StAt w q t a b c d) (x : Nat) : StAt (w.setCell ⟨q, 2, none⟩ (.int .u64 x)) q t a b x d := heap_set h _
set_option maxRecDepth 100000 in
theorem StAt.s3 {w : World} {q t a b c d : Nat} (h : StAt w q t a b c d) (x : Nat) : StAt (w.setCell ⟨q, 3, none⟩ (.int .u64 x)) q t a b c x := heap_set h _

set_option maxRecDepth 100000 in
theorem add_at' (x y z : Nat) (h : z = (x + y) % 18446744073709551616) : ((x : Int) + (y : Int)) % 18446744073709551616 = (z : Int) := by omega
set_option maxRecDepth 100000 in
theorem xor_at (x y z : Nat) (hx : x < 18446744073709551616) (hy : y < 18446744073709551616) (h : z = x ^^^ y) : bits .xor .u64 (x : Int) (y : Int) = (z : Int) := by rw [h]; exact bits_xor_u64_nat x y hx hy

set_option maxRecDepth 100000 in
theorem rot13' (x r : Nat) (hr : Hid (r = rotN x 13)) (hx : x < 18446744073709551616) (w : World) :
    Calls Try.prog 82 #[.int .u64 x, .int .i64 13] w fun e w' => e = .returned (.int .u64 r) ∧ w' = w :=
  (rot13 x hx w).mono fun e w' h => ⟨by rw [hr.out]; exact h.1, h.2.symm⟩
set_option maxRecDepth 100000 in
theorem rot16' (x r : Nat) (hr : Hid (r = rotN x 16)) (hx : x < 18446744073709551616) (w : World) :
    Calls Try.prog 82 #[.int .u64 x, .int .i64 16] w fun e w' => e = .returned (.int .u64 r) ∧ w' = w :=
  (rot16 x hx w).mono fun e w' h => ⟨by rw [hr.out]; exact h.1, h.2.symm⟩
set_option maxRecDepth 100000 in
theorem rot17' (x r : Nat) (hr : Hid (r = rotN x 17)) (hx : x < 18446744073709551616) (w : World) :
    Calls Try.prog 82 #[.int .u64 x, .int .i64 17] w fun e w' => e = .returned (.int .u64 r) ∧ w' = w :=
  (rot17 x hx w).mono fun e w' h => ⟨by rw [hr.out]; exact h.1, h.2.symm⟩
set_option maxRecDepth 100000 in
theorem rot21' (x r : Nat) (hr : Hid (r = rotN x 21)) (hx : x < 18446744073709551616) (w : World) :
    Calls Try.prog 82 #[.int .u64 x, .int .i64 21] w fun e w' => e = .returned (.int .u64 r) ∧ w' = w :=
  (rot21 x hx w).mono fun e w' h => ⟨by rw [hr.out]; exact h.1, h.2.symm⟩
set_option maxRecDepth 100000 in
theorem rot32' (x r : Nat) (hr : Hid (r = rotN x 32)) (hx : x < 18446744073709551616) (w : World) :
    Calls Try.prog 82 #[.int .u64 x, .int .i64 32] w fun e w' => e = .returned (.int .u64 r) ∧ w' = w :=
  (rot32 x hx w).mono fun e w' h => ⟨by rw [hr.out]; exact h.1, h.2.symm⟩
set_option maxRecDepth 100000 in
set_option maxHeartbeats 1000000 in
theorem round_any (a b c d : Nat) (la : a < 18446744073709551616) (lb : b < 18446744073709551616) (lc : c < 18446744073709551616) (ld : d < 18446744073709551616) (w : World) :
    Calls Try.prog 71 #[.agg #[.int .u64 a, .int .u64 b, .int .u64 c, .int .u64 d]] w fun e w' => e = .returned (.agg (stV (roundN ⟨a, b, c, d⟩))) ∧ Chg [] w w' := by
  obtain ⟨a1, ha1⟩ : ∃ x, x = (a + b) % 18446744073709551616 := ⟨_, rfl⟩
  have la1 : a1 < 18446744073709551616 := by rw [ha1]; exact mod_lt' _
  have ea1 : IntKind.u64.wrap ((a : Int) + (b : Int)) = (a1 : Int) := by rw [add_nat, ← ha1]
  obtain ⟨r1, hr1⟩ : ∃ x, x = rotN b 13 := ⟨_, rfl⟩
  have lr1 : r1 < 18446744073709551616 := by rw [hr1]; exact rotN_lt _ _ lb
  have Rr1 := Lib.hid hr1
  obtain ⟨b1, hb1⟩ : ∃ x, x = r1 ^^^ a1 := ⟨_, rfl⟩
  have lb1 : b1 < 18446744073709551616 := by rw [hb1]; exact xor_lt' lr1 la1
  have eb1 := xor_at r1 a1 b1 lr1 la1 hb1
  obtain ⟨a2, ha2⟩ : ∃ x, x = rotN a1 32 := ⟨_, rfl⟩
  have la2 : a2 < 18446744073709551616 := by rw [ha2]; exact rotN_lt _ _ la1
  have Ra2 := Lib.hid ha2
  obtain ⟨c1, hc1⟩ : ∃ x, x = (c + d) % 18446744073709551616 := ⟨_, rfl⟩
  have lc1 : c1 < 18446744073709551616 := by rw [hc1]; exact mod_lt' _
  have ec1 : IntKind.u64.wrap ((c : Int) + (d : Int)) = (c1 : Int) := by rw [add_nat, ← hc1]
  obtain ⟨r2, hr2⟩ : ∃ x, x = rotN d 16 := ⟨_, rfl⟩
  have lr2 : r2 < 18446744073709551616 := by rw [hr2]; exact rotN_lt _ _ ld
  have Rr2 := Lib.hid hr2
  obtain ⟨d1, hd1⟩ : ∃ x, x = r2 ^^^ c1 := ⟨_, rfl⟩
  have ld1 : d1 < 18446744073709551616 := by rw [hd1]; exact xor_lt' lr2 lc1
  have ed1 := xor_at r2 c1 d1 lr2 lc1 hd1
  obtain ⟨a3, ha3⟩ : ∃ x, x = (a2 + d1) % 18446744073709551616 := ⟨_, rfl⟩
  have la3 : a3 < 18446744073709551616 := by rw [ha3]; exact mod_lt' _
  have ea3 : IntKind.u64.wrap ((a2 : Int) + (d1 : Int)) = (a3 : Int) := by rw [add_nat, ← ha3]
  obtain ⟨r3, hr3⟩ : ∃ x, x = rotN d1 21 := ⟨_, rfl⟩
  have lr3 : r3 < 18446744073709551616 := by rw [hr3]; exact rotN_lt _ _ ld1
  have Rr3 := Lib.hid hr3
  obtain ⟨d2, hd2⟩ : ∃ x, x = r3 ^^^ a3 := ⟨_, rfl⟩
  have ld2 : d2 < 18446744073709551616 := by rw [hd2]; exact xor_lt' lr3 la3
  have ed2 := xor_at r3 a3 d2 lr3 la3 hd2
  obtain ⟨c2, hc2⟩ : ∃ x, x = (c1 + b1) % 18446744073709551616 := ⟨_, rfl⟩
  have lc2 : c2 < 18446744073709551616 := by rw [hc2]; exact mod_lt' _
  have ec2 : IntKind.u64.wrap ((c1 : Int) + (b1 : Int)) = (c2 : Int) := by rw [add_nat, ← hc2]
  obtain ⟨r4, hr4⟩ : ∃ x, x = rotN b1 17 := ⟨_, rfl⟩
  have lr4 : r4 < 18446744073709551616 := by rw [hr4]; exact rotN_lt _ _ lb1
  have Rr4 := Lib.hid hr4
  obtain ⟨b2, hb2⟩ : ∃ x, x = r4 ^^^ c2 := ⟨_, rfl⟩
  have lb2 : b2 < 18446744073709551616 := by rw [hb2]; exact xor_lt' lr4 lc2
  have eb2 := xor_at r4 c2 b2 lr4 lc2 hb2
  obtain ⟨c3, hc3⟩ : ∃ x, x = rotN c2 32 := ⟨_, rfl⟩
  have lc3 : c3 < 18446744073709551616 := by rw [hc3]; exact rotN_lt _ _ lc2
  have Rc3 := Lib.hid hc3
  have FIN : Hid (stV (roundN ⟨a, b, c, d⟩) = #[.int .u64 a3, .int .u64 b2, .int .u64 c3, .int .u64 d2]) := by
    refine Lib.hid ?_
    unfold stV roundN
    simp only []
    rw [← ha1, ← hr1, ← hb1, ← ha2, ← hc1, ← hr2, ← hd1, ← ha3, ← hr3, ← hd2, ← hc2, ← hr4, ← hb2, ← hc3]
  clear ha1 hr1 hb1 ha2 hc1 hr2 hd1 ha3 hr3 hd2 hc2 hr4 hb2 hc3
  go_enter Try.func71, Try.ntmps71
  go_wp2_with fail
  obtain ⟨q, hq⟩ : ∃ q, q = w.heap.size := ⟨_, rfl⟩
  refine wp_abs ?_
  intro w0 hw0
  have h0 : StAt w0 q 126 a1 b c d := by
    subst hw0; subst hq; unfold StAt; exact heap_old (heap_new _ _)
  have hc0 : Chg [] w w0 := by rw [hw0]; exact ((Chg.refl _ _).alloc _).alloc _
  have g0 : StAt w0 (q + 1) 126 0 0 0 0 := by
    subst hw0; subst hq; unfold StAt; exact heap_new' _ _ _ (by simp)
  rw [← hq]
  have hq' : w.heap.size ≤ q := by omega
  clear hw0 hq
  refine region_tail 7 (by kernel_rfl) (by kernel_rfl) ?_
  intro v0 hv0
  have j0 : StAt v0 q 126 a1 b c d := by rw [hv0]; exact h0
  have i0 : StAt v0 (q + 1) 126 0 0 0 0 := by rw [hv0]; exact g0
  have d0' : Chg [] w v0 := by rw [hv0]; exact hc0.drew
  clear hv0 h0 g0 hc0
  have k0 := j0.c0
  have k1 := j0.c1
  have k2 := j0.c2
  have k3 := j0.c3
  have f0 := j0.fr 0
  have f1 := j0.fr 1
  have f2 := j0.fr 2
  have f3 := j0.fr 3
  simp only [List.take_succ_cons, List.take_zero, List.drop_succ_cons, List.drop_zero]
  still_step
  still_step
  still_call (rot13' b r1 Rr1 lb _)
  repeat still_step
  refine wpStill_nil ?_
  go_wp2_with (go_at_call 82; refine (rot32' a1 a2 Ra2 la1 _).mono ?_; rintro e w' ⟨rfl, rfl⟩)
  refine wp_abs ?_
  intro w1 hw1
  have h1 : StAt w1 q 126 a2 b1 c1 d := by rw [hw1]; exact (((j0.s1 b1).s0 a2).s2 c1)
  have hc1 : Chg [] w w1 := by rw [hw1]; exact (((d0'.setCell (.inr hq') _).setCell (.inr hq') _).setCell (.inr hq') _)
  have g1 : StAt w1 (q + 1) 126 0 0 0 0 := by rw [hw1]; exact (heap_set_other _ (by omega)).trans ((heap_set_other _ (by omega)).trans ((heap_set_other _ (by omega)).trans (i0)))
  clear hw1 j0 i0 d0' k0 k1 k2 k3 f0 f1 f2 f3
  refine region_tail 7 (by kernel_rfl) (by kernel_rfl) ?_
  intro v1 hv1
  have j1 : StAt v1 q 126 a2 b1 c1 d := by rw [hv1]; exact h1
  have i1 : StAt v1 (q + 1) 126 0 0 0 0 := by rw [hv1]; exact g1
  have d1' : Chg [] w v1 := by rw [hv1]; exact hc1.drew
  clear hv1 h1 g1 hc1
  have k0 := j1.c0
  have k1 := j1.c1
  have k2 := j1.c2
  have k3 := j1.c3
  have f0 := j1.fr 0
  have f1 := j1.fr 1
  have f2 := j1.fr 2
  have f3 := j1.fr 3
  simp only [List.take_succ_cons, List.take_zero, List.drop_succ_cons, List.drop_zero]
  still_step
  still_step
  still_call (rot16' d r2 Rr2 ld _)
  repeat still_step
  refine wpStill_nil ?_
  go_wp2_with fail
  refine wp_abs ?_
  intro w2 hw2
  have h2 : StAt w2 q 126 a3 b1 c1 d1 := by rw [hw2]; exact ((j1.s3 d1).s0 a3)
  have hc2 : Chg [] w w2 := by rw [hw2]; exact ((d1'.setCell (.inr hq') _).setCell (.inr hq') _)
  have g2 : StAt w2 (q + 1) 126 0 0 0 0 := by rw [hw2]; exact (heap_set_other _ (by omega)).trans ((heap_set_other _ (by omega)).trans (i1))
  clear hw2 j1 i1 d1' k0 k1 k2 k3 f0 f1 f2 f3
  refine region_tail 7 (by kernel_rfl) (by kernel_rfl) ?_
  intro v2 hv2
  have j2 : StAt v2 q 126 a3 b1 c1 d1 := by rw [hv2]; exact h2
  have i2 : StAt v2 (q + 1) 126 0 0 0 0 := by rw [hv2]; exact g2
  have d2' : Chg [] w v2 := by rw [hv2]; exact hc2.drew
  clear hv2 h2 g2 hc2
  have k0 := j2.c0
  have k1 := j2.c1
  have k2 := j2.c2
  have k3 := j2.c3
  have f0 := j2.fr 0
  have f1 := j2.fr 1
  have f2 := j2.fr 2
  have f3 := j2.fr 3
  simp only [List.take_succ_cons, List.take_zero, List.drop_succ_cons, List.drop_zero]
  still_step
  still_step
  still_call (rot21' d1 r3 Rr3 ld1 _)
  repeat still_step
  refine wpStill_nil ?_
  go_wp2_with fail
  refine wp_abs ?_
  intro w3 hw3
  have h3 : StAt w3 q 126 a3 b1 c2 d2 := by rw [hw3]; exact ((j2.s3 d2).s2 c2)
  have hc3 : Chg [] w w3 := by rw [hw3]; exact ((d2'.setCell (.inr hq') _).setCell (.inr hq') _)
  have g3 : StAt w3 (q + 1) 126 0 0 0 0 := by rw [hw3]; exact (heap_set_other _ (by omega)).trans ((heap_set_other _ (by omega)).trans (i2))
  clear hw3 j2 i2 d2' k0 k1 k2 k3 f0 f1 f2 f3
  refine region_tail 7 (by kernel_rfl) (by kernel_rfl) ?_
  intro v3 hv3
  have j3 : StAt v3 q 126 a3 b1 c2 d2 := by rw [hv3]; exact h3
  have i3 : StAt v3 (q + 1) 126 0 0 0 0 := by rw [hv3]; exact g3
  have d3' : Chg [] w v3 := by rw [hv3]; exact hc3.drew
  clear hv3 h3 g3 hc3
  have k0 := j3.c0
  have k1 := j3.c1
  have k2 := j3.c2
  have k3 := j3.c3
  have f0 := j3.fr 0
  have f1 := j3.fr 1
  have f2 := j3.fr 2
  have f3 := j3.fr 3
  simp only [List.take_succ_cons, List.take_zero, List.drop_succ_cons, List.drop_zero]
  still_step
  still_step
  still_call (rot17' b1 r4 Rr4 lb1 _)
  repeat still_step
  refine wpStill_nil ?_
  go_upto_region 11 with (go_at_call 82; refine (rot32' c2 c3 Rc3 lc2 _).mono ?_; rintro e w' ⟨rfl, rfl⟩)
  refine wp_abs ?_
  intro w4 hw4
  have h4 : StAt w4 q 126 a3 b2 c3 d2 := by rw [hw4]; exact ((j3.s1 b2).s2 c3)
  have hc4 : Chg [] w w4 := by rw [hw4]; exact ((d3'.setCell (.inr hq') _).setCell (.inr hq') _)
  have g4 : StAt w4 (q + 1) 126 0 0 0 0 := by rw [hw4]; exact (heap_set_other _ (by omega)).trans ((heap_set_other _ (by omega)).trans (i3))
  clear hw4 j3 i3 d3' k0 k1 k2 k3 f0 f1 f2 f3
  have k0 := h4.c0
  have k1 := h4.c1
  have k2 := h4.c2
  have k3 := h4.c3
  have m0 := g4.c0
  have m1 := g4.c1
  have m2 := g4.c2
  have m3 := g4.c3
  have f0 := g4.fr 0
  have f1 := g4.fr 1
  have f2 := g4.fr 2
  have f3 := g4.fr 3
  go_wp2_with fail
  refine bodyPost_ret (v := .agg #[.int .u64 a3, .int .u64 b2, .int .u64 c3, .int .u64 d2]) (by simp [results, Try.results71, go_sem, m0, m1, m2, m3]) rfl ⟨by rw [FIN.out], ?_⟩
  exact ((((hc4.setCell (.inr (by simp; omega)) _).setCell (.inr (by simp; omega)) _).setCell (.inr (by simp; omega)) _).setCell (.inr (by simp; omega)) _)

end Go.Proofs.Ytgdnfempcjlipaa.Si

namespace Go.Proofs.Ytgdnfempcjlipaa.Si
open Go.RowKit

set_option maxRecDepth 100000 in
theorem xor_lit (x y : Nat) (hx : x < 18446744073709551616) (hy : y < 18446744073709551616) : bits .xor .u64 (x : Int) (y : Int) = ((x ^^^ y : Nat) : Int) := bits_xor_u64_nat x y hx hy

set_option maxRecDepth 100000 in
theorem begin_any (k0 k1 : Nat) (h0 : k0 < 18446744073709551616) (h1 : k1 < 18446744073709551616) (w : World) :
    Calls Try.prog 81 #[.agg #[.int .u64 k0, .int .u64 k1]] w fun e w' => e = .returned (.agg (stV (beginN k0 k1))) ∧ Chg [] w w' := by
  obtain ⟨a, ha⟩ : ∃ x, x = k0 ^^^ 8317987319222330741 := ⟨_, rfl⟩
  obtain ⟨b, hb⟩ : ∃ x, x = k1 ^^^ 7237128888997146477 := ⟨_, rfl⟩
  obtain ⟨c, hc⟩ : ∃ x, x = k0 ^^^ 7816392313619706465 := ⟨_, rfl⟩
  obtain ⟨d, hd⟩ : ∃ x, x = k1 ^^^ 8387220255154660723 := ⟨_, rfl⟩
  have ea : bits .xor .u64 (k0 : Int) 8317987319222330741 = (a : Int) := by rw [ha]; exact xor_lit k0 8317987319222330741 h0 (by decide)
  have eb : bits .xor .u64 (k1 : Int) 7237128888997146477 = (b : Int) := by rw [hb]; exact xor_lit k1 7237128888997146477 h1 (by decide)
  have ec : bits .xor .u64 (k0 : Int) 7816392313619706465 = (c : Int) := by rw [hc]; exact xor_lit k0 7816392313619706465 h0 (by decide)
  have ed : bits .xor .u64 (k1 : Int) 8387220255154660723 = (d : Int) := by rw [hd]; exact xor_lit k1 8387220255154660723 h1 (by decide)
  have FIN : Hid (stV (beginN k0 k1) = #[.int .u64 a, .int .u64 b, .int .u64 c, .int .u64 d]) := by
    refine Lib.hid ?_
    rw [ha, hb, hc, hd]; rfl
  clear ha hb hc hd
  go_enter Try.func81, Try.ntmps81
  go_wp2
  refine bodyPost_ret (v := .agg #[.int .u64 a, .int .u64 b, .int .u64 c, .int .u64 d]) (by simp [results, Try.results81, go_sem]) rfl ⟨by rw [FIN.out], ?_⟩
  exact ((Chg.refl _ _).alloc _).alloc _

set_option maxRecDepth 100000 in
theorem or_word (m b : Nat) (hm : m * 256 + b < 18446744073709551616) (hb : b < 256) : bits .or .u64 ((m : Int) * 256) (b : Int) = ((m * 256 + b : Nat) : Int) := by
  rw [show ((m : Int) * 256) = ((m * 256 : Nat) : Int) by omega, bits_or_u64_nat (m * 256) b (Nat.lt_of_le_of_lt (Nat.le_add_right _ _) hm) (Nat.lt_trans hb (by decide))]
  congr 1
  rw [show m * 256 = m <<< 8 by simp [Nat.shiftLeft_eq], ← Nat.shiftLeft_add_eq_or_of_lt (by omega : b < 2 ^ 8)]

/-- The bytes of a block. -/
def byV (l : List Nat) : Array Value := rowI .u8 l

def takeRel (l : List Nat) (m i : Value) : Prop := ∃ k : Nat, k ≤ 8 ∧ i = .int .i64 ((k : Int) - 1) ∧ m = .int .u64 (wordN (l.drop k) : Nat)

set_option maxRecDepth 100000 in
set_option maxHeartbeats 1000000 in
theorem take_any (s : St) (hs : s.ok) (l : List Nat) (hl : l.length = 8) (hb : ∀ x ∈ l, x < 256) (w : World) :
    Calls Try.prog 70 #[.agg (stV s), .agg (byV l)] w fun e w' => e = .returned (.agg (stV (takeN s (wordN l)))) ∧ Chg [] w w' := by
  obtain ⟨a, b, c, d⟩ := s
  have hl2 : ∀ k, k < 8 → ∃ x : Nat, x < 256 ∧ (byV l)[k]? = some (.int .u8 x) ∧ wordN (l.drop k) = wordN (l.drop (k + 1)) * 256 + x := by
    intro k hk
    have hk' : k < l.length := by omega
    exact ⟨l[k], hb _ (List.getElem_mem hk'), rowI_get _ _ _ hk', wordN_drop l k hk'⟩
  have hwl : ∀ k, wordN (l.drop k) < 18446744073709551616 := by
    intro k
    have h1 := wordN_lt (l.drop k) fun x hx => hb x (List.mem_of_mem_drop hx)
    have h2 : (l.drop k).length ≤ 8 := by simp; omega
    exact Nat.lt_of_lt_of_le h1 (Nat.le_trans (Nat.pow_le_pow_right (by decide) h2) (by decide))
  obtain ⟨m, hm⟩ : ∃ m, m = wordN l := ⟨_, rfl⟩
  have hmw : wordN (l.drop 0) = m := by rw [hm]; rfl
  have lm : m < 18446744073709551616 := by rw [← hmw]; exact hwl 0
  obtain ⟨d1, hd1⟩ : ∃ x, x = d ^^^ m := ⟨_, rfl⟩
  have ld1 : d1 < 18446744073709551616 := by rw [hd1]; exact xor_lt' hs.2.2.2 lm
  have ed1 := xor_at d m d1 hs.2.2.2 lm hd1
  obtain ⟨s1, hs1⟩ : ∃ s, s = roundN ⟨a, b, c, d1⟩ := ⟨_, rfl⟩
  have ok1 : s1.ok := by rw [hs1]; exact roundN_ok _ ⟨hs.1, hs.2.1, hs.2.2.1, ld1⟩
  obtain ⟨s2, hs2⟩ : ∃ s, s = roundN s1 := ⟨_, rfl⟩
  have ok2 : s2.ok := by rw [hs2]; exact roundN_ok _ ok1
  obtain ⟨a2, b2, c2, d2⟩ := s2
  obtain ⟨a3, ha3⟩ : ∃ x, x = a2 ^^^ m := ⟨_, rfl⟩
  have ea3 := xor_at a2 m a3 ok2.1 lm ha3
  have FIN : Hid (stV (takeN ⟨a, b, c, d⟩ (wordN l)) = #[.int .u64 a3, .int .u64 b2, .int .u64 c2, .int .u64 d2]) := by
    refine Lib.hid ?_
    unfold takeN
    simp only []
    rw [← hm, ← hd1, ← hs1, ← hs2, ← ha3]
    rfl
  rw [FIN.out]
  obtain ⟨a1, b1, c1, e1⟩ := s1
  have HS1 := Lib.hid hs1
  have HS2 := Lib.hid hs2
  have HL := Lib.hid hl2
  have HW := Lib.hid hwl
  have HMW := Lib.hid hmw
  clear hd1 hs1 hs2 ha3 hl2 hwl hm hmw
  unfold stV
  go_enter Try.func70, Try.ntmps70
  go_wp2
  obtain ⟨q, hq⟩ : ∃ q, q = w.heap.size := ⟨_, rfl⟩
  refine wp_abs ?_
  intro w0 hw0
  have h0 : StAt w0 q 126 a b c d := by
    subst hw0; subst hq; unfold StAt; exact heap_old (heap_old (heap_new _ _))
  have h1 : w0.heap[q + 1]? = some (.cells (byV l) 127) := by
    subst hw0; subst hq; exact heap_old (heap_new' _ _ _ (by simp))
  have hc0 : Chg [] w w0 := by rw [hw0]; exact (((Chg.refl _ _).alloc _).alloc _).alloc _
  have g0 : StAt w0 (q + 1 + 1) 126 0 0 0 0 := by
    subst hw0; subst hq; unfold StAt; exact heap_new' _ _ _ (by simp)
  rw [← hq]
  have hq' : w.heap.size ≤ q := by omega
  clear hw0 hq
  go_loop [5, 6] (takeRel l) (fun _ i => (intOf i + 1).toNat)
  case atStart => exact ⟨8, Nat.le_refl _, rfl, by rw [List.drop_of_length_le (by omega)]; rfl⟩
  case round =>
    obtain ⟨k, hk, rfl, rfl⟩ := hrel
    cases k with
    | zero =>
      rw [HMW.out]
      have k0 := h0.c0
      have k1 := h0.c1
      have k2 := h0.c2
      have k3 := h0.c3
      have f3 := h0.fr 3
      go_wp2_with fail
      have Q1 := round_any a b c d1 hs.1 hs.2.1 hs.2.2.1 ld1
      rw [← HS1.out] at Q1
      refine (Q1 _).mono ?_
      rintro e w1 ⟨rfl, hc1⟩
      clear Q1
      unfold stV
      go_wp2_with fail
      have Q2 := round_any a1 b1 c1 e1 ok1.1 ok1.2.1 ok1.2.2.1 ok1.2.2.2
      rw [← HS2.out] at Q2
      refine (Q2 _).mono ?_
      rintro e w2 ⟨rfl, hc2⟩
      clear Q2
      have hC : Chg [] (w0.setCell ⟨q, 3, none⟩ (.int .u64 d1)) w2 := hc1.trans hc2
      have h2 : StAt w2 q 126 a b c d1 := hC.keep (h0.s3 d1) (by simp)
      have g2 : StAt w2 (q + 1 + 1) 126 0 0 0 0 := hC.keep ((heap_set_other _ (by omega)).trans g0) (by simp)
      have hC2 : Chg [] w w2 := (hc0.setCell (.inr hq') _).trans hC
      unfold stV
      clear hC hc1 hc2 h0 g0 hc0 k0 k1 k2 k3 f3
      have k0 := h2.c0
      have k1 := h2.c1
      have k2 := h2.c2
      have k3 := h2.c3
      have f0 := h2.fr 0
      have f1 := h2.fr 1
      have f2 := h2.fr 2
      have f3 := h2.fr 3
      have m0 := g2.c0
      have m1 := g2.c1
      have m2 := g2.c2
      have m3 := g2.c3
      have e0 := g2.fr 0
      have e1 := g2.fr 1
      have e2 := g2.fr 2
      have e3 := g2.fr 3
      go_wp2_with fail
      refine bodyPost_ret (v := .agg #[.int .u64 a3, .int .u64 b2, .int .u64 c2, .int .u64 d2]) (by simp [results, Try.results70, go_sem, m0, m1, m2, m3]) rfl ⟨rfl, ?_⟩
      iterate 4 (refine Chg.setCell ?_ (.inr (by simp; omega)) _)
      iterate 5 (refine Chg.setCell ?_ (.inr hq') _)
      exact hC2
    | succ k =>
      obtain ⟨x, hx, hcx, hwx⟩ := HL.out k (by omega)
      have hcell : w0.cell? ⟨q + 1, k, none⟩ = some (.int .u8 x) := (cell_of h1).trans hcx
      obtain ⟨y, hy⟩ : ∃ y, y = wordN (l.drop (k + 1)) := ⟨_, rfl⟩
      have hlt := HW.out k
      rw [hwx, ← hy] at hlt
      rw [← hy] at hwx ⊢
      have HY := Lib.hid hwx
      have hor := or_word y x hlt hx
      have t1 : ((k + 1 : Nat) : Int) - 1 = (k : Int) := by omega
      rw [t1]
      clear hwx hcx hy t1
      go_wp2_with fail
      go_round
      case rel => exact ⟨k, by omega, by go_num, by rw [HY.out]; go_num⟩
      case measure => simp [intOf] <;> omega

end Go.Proofs.Ytgdnfempcjlipaa.Si

namespace Go.Proofs.Ytgdnfempcjlipaa.Si
open Go.RowKit

def hashV (k0 k1 : Nat) (v : St) (r : List Nat) (n : Nat) : List Value := .int .u64 k0 :: .int .u64 k1 :: .int .u64 v.a :: .int .u64 v.b :: .int .u64 v.c :: .int .u64 v.d :: (r.map (fun (x : Nat) => Value.int .u8 x) ++ [.int .i64 n])

/-- The block b holds a hash: key, state, rest, total. -/
def RawH (w : World) (b k0 k1 : Nat) (v : St) (r : List Nat) (n : Nat) : Prop := r.length = 8 ∧ w.heap[b]? = some (.cells (hashV k0 k1 v r n).toArray 129 (0, 0))

section
variable {w : World} {b k0 k1 : Nat} {v : St} {r : List Nat} {n : Nat}
set_option maxRecDepth 100000 in
theorem RawH.c0 (h : RawH w b k0 k1 v r n) : w.cell? ⟨b, 0, none⟩ = some (.int .u64 k0) := (cell_of h.2).trans rfl
set_option maxRecDepth 100000 in
theorem RawH.c1 (h : RawH w b k0 k1 v r n) : w.cell? ⟨b, 1, none⟩ = some (.int .u64 k1) := (cell_of h.2).trans rfl
set_option maxRecDepth 100000 in
theorem RawH.c2 (h : RawH w b k0 k1 v r n) : w.cell? ⟨b, 2, none⟩ = some (.int .u64 v.a) := (cell_of h.2).trans rfl
set_option maxRecDepth 100000 in
theorem RawH.c3 (h : RawH w b k0 k1 v r n) : w.cell? ⟨b, 3, none⟩ = some (.int .u64 v.b) := (cell_of h.2).trans rfl
set_option maxRecDepth 100000 in
theorem RawH.c4 (h : RawH w b k0 k1 v r n) : w.cell? ⟨b, 4, none⟩ = some (.int .u64 v.c) := (cell_of h.2).trans rfl
set_option maxRecDepth 100000 in
theorem RawH.c5 (h : RawH w b k0 k1 v r n) : w.cell? ⟨b, 5, none⟩ = some (.int .u64 v.d) := (cell_of h.2).trans rfl
set_option maxRecDepth 100000 in
theorem RawH.cr (h : RawH w b k0 k1 v r n) (j : Nat) (hj : j < 8) : w.cell? ⟨b, 6 + j, none⟩ = some (.int .u8 (r.getD j 0 : Nat)) := by
  rw [cell_of h.2, List.getElem?_toArray, Nat.add_comm]
  show (r.map (fun (x : Nat) => Value.int .u8 x) ++ [.int .i64 n])[j]? = _
  have := h.1
  rw [List.getElem?_append_left (by simpa using by omega)]
  simp [show j < r.length by omega]
set_option maxRecDepth 100000 in
theorem RawH.ct (h : RawH w b k0 k1 v r n) : w.cell? ⟨b, 14, none⟩ = some (.int .i64 n) := by
  rw [cell_of h.2, List.getElem?_toArray]
  show (r.map (fun (x : Nat) => Value.int .u8 x) ++ [.int .i64 n])[8]? = _
  have := h.1
  rw [List.getElem?_append_right (by simpa using by omega)]
  simp [h.1]
set_option maxRecDepth 100000 in
theorem RawH.fr (h : RawH w b k0 k1 v r n) (i : Nat) : w.frozen? ⟨b, i, none⟩ = false := free_of h.2
set_option maxRecDepth 100000 in
theorem RawH.lt (h : RawH w b k0 k1 v r n) : b < w.heap.size := lt_of_block h.2
set_option maxRecDepth 100000 in
theorem RawH.chg {w' : World} {S : List Nat} (h : RawH w b k0 k1 v r n) (hc : Chg S w w') (hb : b ∉ S) : RawH w' b k0 k1 v r n := ⟨h.1, hc.keep h.2 hb⟩
set_option maxRecDepth 100000 in
theorem RawH.setR (h : RawH w b k0 k1 v r n) (j x : Nat) (hj : j < 8) : RawH (w.setCell ⟨b, 6 + j, none⟩ (.int .u8 x)) b k0 k1 v (r.set j x) n := by
  refine ⟨by simpa using h.1, ?_⟩
  have := heap_set (i := 6 + j) h.2 (.int .u8 (x : Nat))
  rw [this]
  have hl := h.1
  congr 2
  rw [List.setIfInBounds_toArray]
  congr 1
  rw [Nat.add_comm]
  unfold hashV
  simp only [List.set_cons_succ]
  rw [List.set_append_left _ _ (by simpa using by omega), List.map_set]
set_option maxRecDepth 100000 in
theorem RawH.setT (h : RawH w b k0 k1 v r n) (x : Nat) : RawH (w.setCell ⟨b, 14, none⟩ (.int .i64 x)) b k0 k1 v r x := by
  refine ⟨h.1, ?_⟩
  have := heap_set (i := 14) h.2 (.int .i64 (x : Nat))
  rw [this]
  congr 2
  rw [List.setIfInBounds_toArray]
  congr 1
  unfold hashV
  simp only [List.set_cons_succ]
  rw [List.set_append_right _ _ (by have := h.1; simp; omega)]
  simp [h.1]
set_option maxRecDepth 100000 in
theorem RawH.setS (h : RawH w b k0 k1 v r n) (s : St) : RawH ((((w.setCell ⟨b, 2, none⟩ (.int .u64 s.a)).setCell ⟨b, 3, none⟩ (.int .u64 s.b)).setCell ⟨b, 4, none⟩ (.int .u64 s.c)).setCell ⟨b, 5, none⟩ (.int .u64 s.d)) b k0 k1 s r n := by
  refine ⟨h.1, ?_⟩
  rw [heap_set (heap_set (heap_set (heap_set h.2 _) _) _) _]
  rfl
end

def beforeN (k0 k1 : Nat) (v : St) (n most : Nat) : St := if n ≤ most then beginN k0 k1 else v

set_option maxRecDepth 100000 in
theorem before_any (b k0 k1 n most : Nat) (v : St) (r : List Nat) (w : World) (h : RawH w b k0 k1 v r n) (h0 : k0 < 18446744073709551616) (h1 : k1 < 18446744073709551616) :
    Calls Try.prog 69 #[.pointer (some ⟨b, 0, none⟩), .int .i64 most] w fun e w' => e = .returned (.agg (stV (beforeN k0 k1 v n most))) ∧ Chg [] w w' := by
  have c0 := h.c0
  have c1 := h.c1
  have c2 := h.c2
  have c3 := h.c3
  have c4 := h.c4
  have c5 := h.c5
  have ct := h.ct
  have hlt := h.lt
  obtain ⟨va, vb, vc, vd⟩ := v
  simp only [] at c2 c3 c4 c5
  unfold beforeN
  by_cases hn : n ≤ most
  · rw [if_pos hn]
    obtain ⟨s, hs⟩ : ∃ s, s = beginN k0 k1 := ⟨_, rfl⟩
    have Q := begin_any k0 k1 h0 h1
    rw [← hs] at Q ⊢
    have QQ := Lib.hid Q
    obtain ⟨sa, sb, sc, sd⟩ := s
    clear hs Q
    unfold stV
    go_enter Try.func69, Try.ntmps69
    go_wp2_with fail
    refine (QQ.out _).mono ?_
    rintro e w1 ⟨rfl, hc1⟩
    have g1 : StAt w1 w.heap.size 126 0 0 0 0 := hc1.keep (heap_new _ _) (by simp)
    have hC : Chg [] w w1 := ((Chg.refl _ _).alloc _).trans hc1
    have m0 := g1.c0
    have m1 := g1.c1
    have m2 := g1.c2
    have m3 := g1.c3
    have e0 := g1.fr 0
    have e1 := g1.fr 1
    have e2 := g1.fr 2
    have e3 := g1.fr 3
    unfold stV
    go_wp2_with fail
    refine bodyPost_ret (v := .agg #[.int .u64 sa, .int .u64 sb, .int .u64 sc, .int .u64 sd]) (by simp [results, Try.results69, go_sem, m0, m1, m2, m3]) rfl ⟨rfl, ?_⟩
    iterate 4 (refine Chg.setCell ?_ (.inr (Nat.le_refl _)) _)
    exact hC
  · rw [if_neg hn]
    unfold stV
    have hn' : decide (n ≤ most) = false := by simpa using hn
    go_enter Try.func69, Try.ntmps69
    go_wp2_with fail
    refine bodyPost_ret (v := .agg #[.int .u64 va, .int .u64 vb, .int .u64 vc, .int .u64 vd]) (by simp [results, Try.results69, go_sem]) rfl ⟨rfl, ?_⟩
    exact (Chg.refl _ _).alloc _

def zst : St := ⟨0, 0, 0, 0⟩
set_option maxRecDepth 100000 in
theorem new_any (k0 k1 : Nat) (w : World) :
    Calls Try.prog 51 #[.int .u64 k0, .int .u64 k1] w fun e w' => e = .returned (.pointer (some ⟨w.heap.size, 0, none⟩)) ∧ RawH w' w.heap.size k0 k1 zst (List.replicate 8 0) 0 ∧ Chg [] w w' := by
  go_enter Try.func51, Try.ntmps51
  go_wp2
  go_ret
  exact ⟨rfl, ⟨rfl, heap_new _ _⟩, (Chg.refl _ _).alloc _⟩

set_option maxRecDepth 100000 in
theorem len_nil (w : World) :
    Calls Try.prog 100 #[.pointer none] w fun e w' => e = .returned (.int .i64 0) ∧ w = w' := by
  go_enter Try.func100, Try.ntmps100
  go_wp2
  go_ret
  exact ⟨rfl, rfl⟩
set_option maxRecDepth 100000 in
theorem len_raw (b k0 k1 n : Nat) (v : St) (r : List Nat) (w : World) (h : RawH w b k0 k1 v r n) :
    Calls Try.prog 100 #[.pointer (some ⟨b, 0, none⟩)] w fun e w' => e = .returned (.int .i64 n) ∧ w = w' := by
  have ct := h.ct
  go_enter Try.func100, Try.ntmps100
  go_wp2
  go_ret
  exact ⟨rfl, rfl⟩

def zeroH : List Value := hashV 0 0 zst (List.replicate 8 0) 0
set_option maxRecDepth 100000 in
theorem hash_zero (w : World) : (zeroValue 129).run Try.prog w = .ok (.agg zeroH.toArray) w := by kernel_rfl
set_option maxRecDepth 100000 in
theorem hash_size : (Try.prog.info? 129).map (·.size) = some 15 := by kernel_rfl
set_option maxRecDepth 100000 in
theorem hashV_size (k0 k1 n : Nat) (v : St) (r : List Nat) (h : r.length = 8) : (hashV k0 k1 v r n).toArray.size = 15 := by simp [hashV, h]
set_option maxRecDepth 100000 in
theorem hashV_one (k0 k1 n : Nat) (v : St) (r : List Nat) : (hashV k0 k1 v r n).toArray.all (·.oneCell') = true := by
  simp only [List.all_toArray, hashV, List.all_cons, List.all_append, List.all_map, List.all_nil, Value.oneCell']
  simp [List.all_eq_true, Value.oneCell']

end Go.Proofs.Ytgdnfempcjlipaa.Si

namespace Go.Proofs.Ytgdnfempcjlipaa.Si
open Go.RowKit

/-- The bytes of a string, as numbers. -/
def bytesN (s : ByteArray) : List Nat := s.data.toList.map (·.toNat)
set_option maxRecDepth 100000 in
theorem bytesN_len (s : ByteArray) : (bytesN s).length = s.size := by simp [bytesN]
set_option maxRecDepth 100000 in
theorem bytesN_lt (s : ByteArray) : ∀ x ∈ bytesN s, x < 256 := by
  intro x hx
  simp only [bytesN, List.mem_map] at hx
  obtain ⟨y, _, rfl⟩ := hx
  exact y.toNat_lt
set_option maxRecDepth 100000 in
theorem bytesN_take (s : ByteArray) (k : Nat) (h : k < s.size) : (bytesN s).take (k + 1) = (bytesN s).take k ++ [s[k].toNat] := by
  rw [List.take_succ_eq_append_getElem (by rw [bytesN_len]; exact h)]
  congr 2
  simp only [bytesN, List.getElem_map]
  rfl

/-- The block b holds the hash of the bytes l. -/
def HashAt (w : World) (b k0 k1 : Nat) (l : List Nat) : Prop :=
  k0 < 18446744073709551616 ∧ k1 < 18446744073709551616 ∧ (∀ x ∈ l, x < 256) ∧ ∃ v : St, v.ok ∧ (8 ≤ l.length → v = afterN (beginN k0 k1) l (l.length / 8)) ∧ RawH w b k0 k1 v (restN l) l.length

set_option maxRecDepth 100000 in
theorem HashAt.chg {w w' : World} {S : List Nat} {b k0 k1 : Nat} {l : List Nat} (h : HashAt w b k0 k1 l) (hc : Chg S w w') (hb : b ∉ S) : HashAt w' b k0 k1 l := by
  obtain ⟨h0, h1, h2, v, h3, h4, h5⟩ := h
  exact ⟨h0, h1, h2, v, h3, h4, h5.chg hc hb⟩
set_option maxRecDepth 100000 in
theorem HashAt.lt {w : World} {b k0 k1 : Nat} {l : List Nat} (h : HashAt w b k0 k1 l) : b < w.heap.size := by
  obtain ⟨_, _, _, _, _, _, h5⟩ := h
  exact h5.lt
set_option maxRecDepth 100000 in
theorem hash_new {w : World} {b k0 k1 : Nat} (h : RawH w b k0 k1 zst (List.replicate 8 0) 0) (h0 : k0 < 18446744073709551616) (h1 : k1 < 18446744073709551616) : HashAt w b k0 k1 [] :=
  ⟨h0, h1, by simp, zst, ⟨by decide, by decide, by decide, by decide⟩, by simp, h⟩

set_option maxRecDepth 100000 in
theorem take8 (s : St) (hs : s.ok) (x0 x1 x2 x3 x4 x5 x6 x7 : Nat) (hb : ∀ x ∈ [x0, x1, x2, x3, x4, x5, x6, x7], x < 256) (t : St) (ht : Hid (t = takeN s (wordN [x0, x1, x2, x3, x4, x5, x6, x7]))) (w : World) :
    Calls Try.prog 70 #[.agg #[.int .u64 s.a, .int .u64 s.b, .int .u64 s.c, .int .u64 s.d], .agg #[.int .u8 x0, .int .u8 x1, .int .u8 x2, .int .u8 x3, .int .u8 x4, .int .u8 x5, .int .u8 x6, .int .u8 x7]] w fun e w' => e = .returned (.agg #[.int .u64 t.a, .int .u64 t.b, .int .u64 t.c, .int .u64 t.d]) ∧ Chg [] w w' :=
  (take_any s hs [x0, x1, x2, x3, x4, x5, x6, x7] rfl hb w).mono fun e w' h => ⟨by rw [ht.out]; exact h.1, h.2⟩

set_option maxRecDepth 100000 in
theorem before_lit (b k0 k1 n most : Nat) (c : Int) (v : St) (r : List Nat) (u : St) (hu : Hid (u = beforeN k0 k1 v n most)) (hc : c = most) (h0 : k0 < 18446744073709551616) (h1 : k1 < 18446744073709551616) (w : World) (h : RawH w b k0 k1 v r n) :
    Calls Try.prog 69 #[.pointer (some ⟨b, 0, none⟩), .int .i64 c] w fun e w' => e = .returned (.agg #[.int .u64 u.a, .int .u64 u.b, .int .u64 u.c, .int .u64 u.d]) ∧ Chg [] w w' := by
  subst hc
  exact (before_any b k0 k1 n most v r w h h0 h1).mono fun e w' h => ⟨by rw [hu.out]; exact h.1, h.2⟩

set_option maxRecDepth 100000 in
theorem len8 (r : List Nat) (h : r.length = 8) : ∃ x0 x1 x2 x3 x4 x5 x6 x7, r = [x0, x1, x2, x3, x4, x5, x6, x7] := by
  match r, h with
  | [x0, x1, x2, x3, x4, x5, x6, x7], _ => exact ⟨_, _, _, _, _, _, _, _, rfl⟩

set_option maxRecDepth 100000 in
theorem rest8 {w : World} {b k0 k1 n x0 x1 x2 x3 x4 x5 x6 x7 : Nat} {v : St} (r1 : RawH w b k0 k1 v [x0, x1, x2, x3, x4, x5, x6, x7] n) : w.cell? ⟨b, 6, none⟩ = some (.int .u8 x0) ∧ w.cell? ⟨b, 7, none⟩ = some (.int .u8 x1) ∧ w.cell? ⟨b, 8, none⟩ = some (.int .u8 x2) ∧ w.cell? ⟨b, 9, none⟩ = some (.int .u8 x3) ∧ w.cell? ⟨b, 10, none⟩ = some (.int .u8 x4) ∧ w.cell? ⟨b, 11, none⟩ = some (.int .u8 x5) ∧ w.cell? ⟨b, 12, none⟩ = some (.int .u8 x6) ∧ w.cell? ⟨b, 13, none⟩ = some (.int .u8 x7) :=
  ⟨r1.cr 0 (by decide), r1.cr 1 (by decide), r1.cr 2 (by decide), r1.cr 3 (by decide), r1.cr 4 (by decide), r1.cr 5 (by decide), r1.cr 6 (by decide), r1.cr 7 (by decide)⟩

def WriteR (b k0 k1 : Nat) (l m : List Nat) (w : World) (i : Value) (wr : World) : Prop :=
  ∃ k : Nat, k ≤ m.length ∧ i = .int .i64 k ∧ HashAt wr b k0 k1 (l ++ m.take k) ∧ Chg [b] w wr

set_option maxRecDepth 100000 in
theorem write_nil (s : ByteArray) (w : World) :
    Calls Try.prog 52 #[.pointer none, .string s] w fun e w' => e = .returned (.int .i64 2) ∧ w = w' := by
  go_enter Try.func52, Try.ntmps52
  go_wp2
  go_ret
  exact ⟨rfl, rfl⟩

set_option maxRecDepth 100000 in
set_option maxHeartbeats 4000000 in
theorem write_any (b k0 k1 : Nat) (l : List Nat) (s : ByteArray) (w : World) (h : HashAt w b k0 k1 l) (hl : l.length ≤ 1000000000) (hs : s.size ≤ 1000000000) :
    Calls Try.prog 52 #[.pointer (some ⟨b, 0, none⟩), .string s] w fun e w' => e = .returned (.int .i64 0) ∧ HashAt w' b k0 k1 (l ++ bytesN s) ∧ Chg [b] w w' := by
  go_enter Try.func52, Try.ntmps52
  go_wp2
  go_loopw [10] (WriteR b k0 k1 l (bytesN s) w) (fun i _ => s.size - (intOf i).toNat)
  case atStart => exact ⟨0, Nat.zero_le _, rfl, by simpa using h, Chg.refl _ _⟩
  case round =>
    clear h
    obtain ⟨k, hk, rfl, hh, hC⟩ := hrel
    rw [bytesN_len] at hk
    by_cases hlt : k < s.size
    · obtain ⟨m, hm⟩ : ∃ m, m = l ++ (bytesN s).take k := ⟨_, rfl⟩
      have hm2 : l ++ (bytesN s).take (k + 1) = m ++ [s[k].toNat] := by rw [bytesN_take s k hlt, hm, List.append_assoc]
      have hml : m.length = l.length + k := by rw [hm]; simp [bytesN_len]; omega
      rw [← hm] at hh
      obtain ⟨x, hx⟩ : ∃ x, x = s[k].toNat := ⟨_, rfl⟩
      have hx2 : x < 256 := by rw [hx]; exact UInt8.toNat_lt _
      rw [← hx] at hm2
      have HM := Lib.hid hm2
      obtain ⟨hk0, hk1, hmb, v, hv, hva, hraw⟩ := hh
      obtain ⟨n, hn⟩ : ∃ n, n = m.length := ⟨_, rfl⟩
      rw [← hn] at hraw
      have hn2 : n ≤ 2000000000 := by omega
      obtain ⟨j, hj⟩ : ∃ j, j = n % 8 := ⟨_, rfl⟩
      have hj8 : j < 8 := by omega
      have cr := hraw.cr j hj8
      have ct := hraw.ct
      have fr := hraw.fr
      have HMB := Lib.hid hmb
      have HVA := Lib.hid hva
      have HN := Lib.hid hn
      have HJ := Lib.hid hj
      have em : (n : Int).tmod 8 = (j : Int) := by rw [Int.tmod_eq_emod_of_nonneg (by omega)]; omega
      have hji : (j : Int) < 8 := by omega
      have hji0 : (0 : Int) ≤ (j : Int) := by omega
      have hx' : s[k].toNat = x := hx.symm
      have hx2' : x < 256 := hx2
      by_cases hj7 : j = 7
      · subst hj7
        have em2 : ((n : Int) + 1) % 8 = 0 := by omega
        clear hm hm2 hmb hva hn hj hx
        go_wp2_with fail
        refine region_tail 12 (by kernel_rfl) (by kernel_rfl) ?_
        intro v0 hv0
        have r0 : RawH v0 b k0 k1 v (restN m) n := by rw [hv0]; exact hraw
        have hC0 : Chg [b] w v0 := by rw [hv0]; exact hC.drew
        clear hv0 hraw hC cr ct fr
        have cr := r0.cr 7 (by decide)
        have ct := r0.ct
        have fr := r0.fr 13
        have fr2 := r0.fr 14
        simp only [List.take_succ_cons, List.take_zero, List.drop_succ_cons, List.drop_zero]
        repeat still_step
        refine wpStill_nil ?_
        go_upto_region 9 with (fail)
        refine wp_abs ?_
        intro w1 hw1
        have r1 : RawH w1 b k0 k1 v ((restN m).set 7 x) (n + 1) := by rw [hw1]; exact (r0.setR 7 x (by decide)).setT (n + 1)
        have hC1 : Chg [b] w w1 := by rw [hw1]; exact (hC0.setCell (.inl (by simp)) _).setCell (.inl (by simp)) _
        clear hw1 r0 hC0 cr ct fr fr2
        have hr8 : ∀ y ∈ (restN m).set 7 x, y < 256 := by
          intro y hy
          rcases List.mem_or_eq_of_mem_set hy with hy | rfl
          · exact restN_lt m HMB.out y hy
          · exact hx2
        obtain ⟨x0, x1, x2, x3, x4, x5, x6, x7, hr⟩ := len8 _ r1.1
        have HR := Lib.hid hr
        rw [hr] at r1 hr8
        have HR8 := Lib.hid hr8
        clear hr hr8
        obtain ⟨u, hu⟩ : ∃ u, u = beforeN k0 k1 v (n + 1) 8 := ⟨_, rfl⟩
        have uok : u.ok := by rw [hu]; unfold beforeN; split; exact beginN_ok _ _ hk0 hk1; exact hv
        obtain ⟨t, ht⟩ : ∃ t, t = takeN u (wordN [x0, x1, x2, x3, x4, x5, x6, x7]) := ⟨_, rfl⟩
        have tok : t.ok := by rw [ht]; exact takeN_ok _ _ uok (word8_lt _ rfl HR8.out)
        have HU := Lib.hid hu
        have HT := Lib.hid ht
        clear hu ht
        have HS1 := Lib.hid (rest8 r1)
        go_region_held3 (fun w1 => w1.cell? ⟨b, 6, none⟩ = some (.int .u8 x0) ∧ w1.cell? ⟨b, 7, none⟩ = some (.int .u8 x1) ∧ w1.cell? ⟨b, 8, none⟩ = some (.int .u8 x2) ∧ w1.cell? ⟨b, 9, none⟩ = some (.int .u8 x3) ∧ w1.cell? ⟨b, 10, none⟩ = some (.int .u8 x4) ∧ w1.cell? ⟨b, 11, none⟩ = some (.int .u8 x5) ∧ w1.cell? ⟨b, 12, none⟩ = some (.int .u8 x6) ∧ w1.cell? ⟨b, 13, none⟩ = some (.int .u8 x7)) (first | (with_reducible exact HS4.out) | (with_reducible exact HS3.out) | (with_reducible exact HS2.out) | (with_reducible exact HS1.out) | exact HS1.out) (first | (go_at_call 69; go_must (refine (before_lit b k0 k1 (n + 1) 8 8 v [x0, x1, x2, x3, x4, x5, x6, x7] u HU rfl hk0 hk1 _ ?_).mono ?_; exact r1; rintro e9 w2 ⟨rfl, hc2⟩); replace hc2 := hc2.undrew; have r2 := r1.chg hc2 (by simp); have HS2 := Lib.hid (rest8 r2) ) | (go_at_call 70; refine (take8 u uok x0 x1 x2 x3 x4 x5 x6 x7 HR8.out t HT _).mono ?_; rintro e9 w3 ⟨rfl, hc3⟩; have r3 := r2.chg hc3 (by simp); have n2 := r3.c2; have n3 := r3.c3; have n4 := r3.c4; have n5 := r3.c5; have f2 := r3.fr 2; have f3 := r3.fr 3; have f4 := r3.fr 4; have f5 := r3.fr 5; have HS3 := Lib.hid (rest8 r3); have r4 := r3.setS t; have HS4 := Lib.hid (rest8 r4) ) )
        clear n2 n3 n4 n5 f2 f3 f4 f5
        have z6 := r4.fr 6
        have z7 := r4.fr 7
        have z8 := r4.fr 8
        have z9 := r4.fr 9
        have z10 := r4.fr 10
        have z11 := r4.fr 11
        have z12 := r4.fr 12
        have z13 := r4.fr 13
        obtain ⟨y6, y7, y8, y9, y10, y11, y12, y13⟩ := HS4.out
        go_wp2_with fail
        go_roundw
        case rel =>
          have r5 := (((((((r4.setR 0 0 (by decide)).setR 1 0 (by decide)).setR 2 0 (by decide)).setR 3 0 (by decide)).setR 4 0 (by decide)).setR 5 0 (by decide)).setR 6 0 (by decide)).setR 7 0 (by decide)
          refine ⟨k + 1, by rw [bytesN_len]; omega, by go_num, ?_, ?_⟩
          · rw [HM.out]
            have e1 := HN.out
            have e2 := HJ.out
            obtain ⟨f1, f2, f3⟩ := restN_full m x (by omega)
            refine ⟨hk0, hk1, ?_, t, tok, ?_, ?_⟩
            · intro y hy
              rcases List.mem_append.1 hy with hy | hy
              · exact HMB.out y hy
              · simp at hy; omega
            · intro _
              rw [f3, afterN, afterN_append _ _ _ _ (by omega), ← f1, HR.out, HT.out]
              congr 1
              rw [HU.out]
              unfold beforeN
              by_cases h8 : n + 1 ≤ 8
              · rw [if_pos h8, show m.length / 8 = 0 by omega]; rfl
              · rw [if_neg h8]; exact HVA.out (by omega)
            · rw [f2, show (m ++ [x]).length = n + 1 by simp; omega]
              exact r5
          · have hC3 : Chg [b] w w3 := (hC1.trans (hc2.mono (by simp))).trans (hc3.mono (by simp))
            iterate 12 (refine Chg.setCell ?_ (.inl (by simp)) _)
            exact hC3
        case measure => simp [intOf] <;> omega
      have em2 : ((n : Int) + 1) % 8 = (j : Int) + 1 := by omega
      have em3 : ((j : Int) + 1 == 0) = false := by simp; omega
      clear hm hm2 hmb hva hn hj hx
      go_wp2_with fail
      refine region_tail 12 (by kernel_rfl) (by kernel_rfl) ?_
      intro v0 hv0
      have r0 : RawH v0 b k0 k1 v (restN m) n := by rw [hv0]; exact hraw
      have hC0 : Chg [b] w v0 := by rw [hv0]; exact hC.drew
      clear hv0 hraw hC cr ct fr
      have cr := r0.cr j hj8
      have ct := r0.ct
      have fr := r0.fr (6 + j)
      have fr2 := r0.fr 14
      simp only [List.take_succ_cons, List.take_zero, List.drop_succ_cons, List.drop_zero]
      repeat still_step
      refine wpStill_nil ?_
      go_wp2_with fail
      go_roundw
      case rel =>
        refine ⟨k + 1, by rw [bytesN_len]; omega, by go_num, ?_, (hC0.setCell (.inl (by simp)) _).setCell (.inl (by simp)) _⟩
        rw [HM.out]
        have e1 := HN.out
        have e2 := HJ.out
        refine ⟨hk0, hk1, ?_, v, hv, ?_, ?_⟩
        · intro y hy
          rcases List.mem_append.1 hy with hy | hy
          · exact HMB.out y hy
          · simp at hy; omega
        · intro h8
          have hl8 : (m ++ [x]).length = n + 1 := by simp; omega
          have e3 : (n + 1) / 8 = m.length / 8 := by omega
          rw [hl8, e3, afterN_append _ _ _ _ (by omega)]
          exact HVA.out (by omega)
        · rw [restN_more m x (by omega), ← e1, ← e2, show (m ++ [x]).length = n + 1 by simp; omega]
          exact (r0.setR j x hj8).setT (n + 1)
      case measure => simp [intOf] <;> omega
    · have hk2 : k = s.size := by omega
      subst hk2
      rw [List.take_of_length_le (by rw [bytesN_len]; omega)] at hh
      go_wp2_with fail
      go_ret
      exact ⟨rfl, hh, hC⟩

end Go.Proofs.Ytgdnfempcjlipaa.Si

namespace Go.Proofs.Ytgdnfempcjlipaa.Si
open Go.RowKit

set_option maxRecDepth 100000 in
theorem round4 (s : St) (hs : s.ok) (t : St) (ht : Hid (t = roundN s)) (w : World) :
    Calls Try.prog 71 #[.agg #[.int .u64 s.a, .int .u64 s.b, .int .u64 s.c, .int .u64 s.d]] w fun e w' => e = .returned (.agg #[.int .u64 t.a, .int .u64 t.b, .int .u64 t.c, .int .u64 t.d]) ∧ Chg [] w w' :=
  (round_any s.a s.b s.c s.d hs.1 hs.2.1 hs.2.2.1 hs.2.2.2 w).mono fun e w' h => ⟨by rw [ht.out]; exact h.1, h.2⟩

set_option maxRecDepth 100000 in
theorem sum_nil (w : World) :
    Calls Try.prog 53 #[.pointer none] w fun e w' => e = .returned (.int .u64 0) ∧ w = w' := by
  go_enter Try.func53, Try.ntmps53
  go_wp2
  go_ret
  exact ⟨rfl, rfl⟩

/-- Eight bytes in a block. -/
def By8 (w : World) (p x0 x1 x2 x3 x4 x5 x6 x7 : Nat) : Prop := w.heap[p]? = some (.cells #[.int .u8 x0, .int .u8 x1, .int .u8 x2, .int .u8 x3, .int .u8 x4, .int .u8 x5, .int .u8 x6, .int .u8 x7] 127 (0, 0))
set_option maxRecDepth 100000 in
theorem by8 {w : World} {p x0 x1 x2 x3 x4 x5 x6 x7 : Nat} (h : By8 w p x0 x1 x2 x3 x4 x5 x6 x7) : w.cell? ⟨p, 0, none⟩ = some (.int .u8 x0) ∧ w.cell? ⟨p, 1, none⟩ = some (.int .u8 x1) ∧ w.cell? ⟨p, 2, none⟩ = some (.int .u8 x2) ∧ w.cell? ⟨p, 3, none⟩ = some (.int .u8 x3) ∧ w.cell? ⟨p, 4, none⟩ = some (.int .u8 x4) ∧ w.cell? ⟨p, 5, none⟩ = some (.int .u8 x5) ∧ w.cell? ⟨p, 6, none⟩ = some (.int .u8 x6) ∧ w.cell? ⟨p, 7, none⟩ = some (.int .u8 x7) :=
  ⟨(cell_of h).trans rfl, (cell_of h).trans rfl, (cell_of h).trans rfl, (cell_of h).trans rfl, (cell_of h).trans rfl, (cell_of h).trans rfl, (cell_of h).trans rfl, (cell_of h).trans rfl⟩

/-- What holds at every moment of the region in Sum. -/
structure SumS (w W : World) (b p k0 k1 : Nat) (v : St) (n x0 x1 x2 x3 x4 x5 x6 x7 m : Nat) : Prop where
  by8 : By8 W p x0 x1 x2 x3 x4 x5 x6 m
  raw : RawH W b k0 k1 v [x0, x1, x2, x3, x4, x5, x6, x7] n
  c : Chg [] w W
section
variable {w W W' : World} {b p k0 k1 : Nat} {v : St} {n x0 x1 x2 x3 x4 x5 x6 x7 m : Nat}
set_option maxRecDepth 100000 in
theorem SumS.chg (h : SumS w W b p k0 k1 v n x0 x1 x2 x3 x4 x5 x6 x7 m) (hc : Chg [] W W') : SumS w W' b p k0 k1 v n x0 x1 x2 x3 x4 x5 x6 x7 m :=
  ⟨hc.keep h.by8 (by simp), h.raw.chg hc (by simp), h.c.trans hc⟩
set_option maxRecDepth 100000 in
theorem SumS.alloc (h : SumS w W b p k0 k1 v n x0 x1 x2 x3 x4 x5 x6 x7 m) (o : Obj) : SumS w (W.alloc o) b p k0 k1 v n x0 x1 x2 x3 x4 x5 x6 x7 m := h.chg ((Chg.refl _ _).alloc o)
set_option maxRecDepth 100000 in
theorem SumS.set4 (h : SumS w W b p k0 k1 v n x0 x1 x2 x3 x4 x5 x6 x7 m) {q T : Nat} (_ : StAt W q T 0 0 0 0) (h1 : q ≠ p) (h2 : q ≠ b) (h3 : w.heap.size ≤ q) (t : St) : SumS w ((((W.setCell ⟨q, 0, none⟩ (.int .u64 t.a)).setCell ⟨q, 1, none⟩ (.int .u64 t.b)).setCell ⟨q, 2, none⟩ (.int .u64 t.c)).setCell ⟨q, 3, none⟩ (.int .u64 t.d)) b p k0 k1 v n x0 x1 x2 x3 x4 x5 x6 x7 m := by
  have hc : Chg [q] W ((((W.setCell ⟨q, 0, none⟩ (.int .u64 t.a)).setCell ⟨q, 1, none⟩ (.int .u64 t.b)).setCell ⟨q, 2, none⟩ (.int .u64 t.c)).setCell ⟨q, 3, none⟩ (.int .u64 t.d)) := ((((Chg.refl _ _).setCell (.inl (by simp)) _).setCell (.inl (by simp)) _).setCell (.inl (by simp)) _).setCell (.inl (by simp)) _
  exact ⟨hc.keep h.by8 (by simpa using Ne.symm h1), h.raw.chg hc (by simpa using Ne.symm h2), h.c.trans_new hc (by simpa using h3)⟩
set_option maxRecDepth 100000 in
theorem SumS.all (h : SumS w W b p k0 k1 v n x0 x1 x2 x3 x4 x5 x6 x7 m) : (W.cell? ⟨p, 0, none⟩ = some (.int .u8 x0) ∧ W.cell? ⟨p, 1, none⟩ = some (.int .u8 x1) ∧ W.cell? ⟨p, 2, none⟩ = some (.int .u8 x2) ∧ W.cell? ⟨p, 3, none⟩ = some (.int .u8 x3) ∧ W.cell? ⟨p, 4, none⟩ = some (.int .u8 x4) ∧ W.cell? ⟨p, 5, none⟩ = some (.int .u8 x5) ∧ W.cell? ⟨p, 6, none⟩ = some (.int .u8 x6) ∧ W.cell? ⟨p, 7, none⟩ = some (.int .u8 m)) ∧ SumS w W b p k0 k1 v n x0 x1 x2 x3 x4 x5 x6 x7 m := ⟨Go.Proofs.Ytgdnfempcjlipaa.Si.by8 h.by8, h⟩
end

set_option maxRecDepth 100000 in
set_option maxHeartbeats 4000000 in
theorem sum_raw (b k0 k1 : Nat) (v : St) (r : List Nat) (n : Nat) (w : World) (h : RawH w b k0 k1 v r n) (h0 : k0 < 18446744073709551616) (h1 : k1 < 18446744073709551616) (hv : v.ok) (hr : ∀ x ∈ r, x < 256) (hn : n ≤ 4000000000) :
    Calls Try.prog 53 #[.pointer (some ⟨b, 0, none⟩)] w fun e w' => e = .returned (.int .u64 (finishN (takeN (beforeN k0 k1 v n 7) (wordN (r.set 7 (n % 256)))) : Nat)) ∧ Chg [] w w' := by
  obtain ⟨x0, x1, x2, x3, x4, x5, x6, x7, rfl⟩ := len8 _ h.1
  obtain ⟨y6, y7, y8, y9, y10, y11, y12, y13⟩ := rest8 h
  obtain ⟨m, hm⟩ : ∃ m, m = n % 256 := ⟨_, rfl⟩
  have em : (n : Int) % 256 = (m : Int) := by omega
  have hlt := h.lt
  have ct := h.ct
  rw [← hm]
  have hr8 : ∀ x ∈ [x0, x1, x2, x3, x4, x5, x6, m], x < 256 := by
    intro x hx
    rcases (show x = m ∨ x ∈ [x0, x1, x2, x3, x4, x5, x6, x7] by simp at hx ⊢; omega) with e | e
    · omega
    · exact hr x e
  rw [show [x0, x1, x2, x3, x4, x5, x6, x7].set 7 m = [x0, x1, x2, x3, x4, x5, x6, m] from rfl]
  have HR8 := Lib.hid hr8
  have H := Lib.hid h
  obtain ⟨u, hu⟩ : ∃ u, u = beforeN k0 k1 v n 7 := ⟨_, rfl⟩
  have uok : u.ok := by rw [hu]; unfold beforeN; split; exact beginN_ok _ _ h0 h1; exact hv
  obtain ⟨t, ht⟩ : ∃ t, t = takeN u (wordN [x0, x1, x2, x3, x4, x5, x6, m]) := ⟨_, rfl⟩
  have tok : t.ok := by rw [ht]; exact takeN_ok _ _ uok (word8_lt _ rfl HR8.out)
  rw [← hu, ← ht]
  obtain ⟨c1, hc1⟩ : ∃ x, x = t.c ^^^ 255 := ⟨_, rfl⟩
  have lc1 : c1 < 18446744073709551616 := by rw [hc1]; exact xor_lt' tok.2.2.1 (by decide)
  have ec1 : bits .xor .u64 (t.c : Int) 255 = (c1 : Int) := by rw [hc1]; exact xor_lit t.c 255 tok.2.2.1 (by decide)
  obtain ⟨s1, hs1⟩ : ∃ s, s = roundN ⟨t.a, t.b, c1, t.d⟩ := ⟨_, rfl⟩
  have ok1 : s1.ok := by rw [hs1]; exact roundN_ok _ ⟨tok.1, tok.2.1, lc1, tok.2.2.2⟩
  obtain ⟨s2, hs2⟩ : ∃ s, s = roundN s1 := ⟨_, rfl⟩
  have ok2 : s2.ok := by rw [hs2]; exact roundN_ok _ ok1
  obtain ⟨s3, hs3⟩ : ∃ s, s = roundN s2 := ⟨_, rfl⟩
  have ok3 : s3.ok := by rw [hs3]; exact roundN_ok _ ok2
  obtain ⟨s4, hs4⟩ : ∃ s, s = roundN s3 := ⟨_, rfl⟩
  have ok4 : s4.ok := by rw [hs4]; exact roundN_ok _ ok3
  obtain ⟨g1, hg1⟩ : ∃ x, x = s4.a ^^^ s4.b := ⟨_, rfl⟩
  have lg1 : g1 < 18446744073709551616 := by rw [hg1]; exact xor_lt' ok4.1 ok4.2.1
  have eg1 := xor_at s4.a s4.b g1 ok4.1 ok4.2.1 hg1
  obtain ⟨g2, hg2⟩ : ∃ x, x = g1 ^^^ s4.c := ⟨_, rfl⟩
  have lg2 : g2 < 18446744073709551616 := by rw [hg2]; exact xor_lt' lg1 ok4.2.2.1
  have eg2 := xor_at g1 s4.c g2 lg1 ok4.2.2.1 hg2
  obtain ⟨g3, hg3⟩ : ∃ x, x = g2 ^^^ s4.d := ⟨_, rfl⟩
  have eg3 := xor_at g2 s4.d g3 lg2 ok4.2.2.2 hg3
  have FIN : finishN t = g3 := by
    unfold finishN
    simp only []
    rw [← hc1, ← hs1, ← hs2, ← hs3, ← hs4, ← hg1, ← hg2, ← hg3]
  rw [FIN]
  have HU := Lib.hid hu
  have HT := Lib.hid ht
  have HS1 := Lib.hid hs1
  have HS2 := Lib.hid hs2
  have HS3 := Lib.hid hs3
  have HS4 := Lib.hid hs4
  clear hm hr8 h hr hu ht hc1 hs1 hs2 hs3 hs4 hg1 hg2 hg3 FIN
  go_enter Try.func53, Try.ntmps53
  go_wp2
  obtain ⟨p, hp⟩ : ∃ p, p = w.heap.size := ⟨_, rfl⟩
  refine wp_abs ?_
  intro w1 hw1
  have p1 : By8 w1 p x0 x1 x2 x3 x4 x5 x6 m := by rw [hw1, hp]; exact heap_new _ _
  have r1 : RawH w1 b k0 k1 v [x0, x1, x2, x3, x4, x5, x6, x7] n := by rw [hw1]; exact H.out.chg ((Chg.refl [] _).alloc _) (by simp)
  have hC1 : Chg [] w w1 := by rw [hw1]; exact (Chg.refl _ _).alloc _
  rw [← hp]
  have hp' : w.heap.size ≤ p := by omega
  clear hw1 hp y6 y7 y8 y9 y10 y11 y12 y13 ct hlt
  have HP1 : Hid (SumS w w1.drew b p k0 k1 v n x0 x1 x2 x3 x4 x5 x6 x7 m) := Lib.hid (SumS.mk p1 r1 hC1.drew)
  have lp : p < w1.heap.size := lt_of_block p1
  have lb : b < w1.heap.size := r1.lt
  clear p1 r1
  go_region_held3 (fun W => (W.cell? ⟨p, 0, none⟩ = some (.int .u8 x0) ∧ W.cell? ⟨p, 1, none⟩ = some (.int .u8 x1) ∧ W.cell? ⟨p, 2, none⟩ = some (.int .u8 x2) ∧ W.cell? ⟨p, 3, none⟩ = some (.int .u8 x3) ∧ W.cell? ⟨p, 4, none⟩ = some (.int .u8 x4) ∧ W.cell? ⟨p, 5, none⟩ = some (.int .u8 x5) ∧ W.cell? ⟨p, 6, none⟩ = some (.int .u8 x6) ∧ W.cell? ⟨p, 7, none⟩ = some (.int .u8 m)) ∧ SumS w W b p k0 k1 v n x0 x1 x2 x3 x4 x5 x6 x7 m)
    (first | exact SumS.all HP1.out | (with_reducible exact SumS.all HP3.out) | (with_reducible exact SumS.all HP4.out) | (with_reducible exact SumS.all (HP3.out.alloc _)) | (with_reducible exact SumS.all HP2.out) | exact SumS.all (HP2.out.alloc _) | exact SumS.all (HP1.out.alloc _))
    (first | (go_at_call 69; go_must (refine (before_lit b k0 k1 n 7 7 v [x0, x1, x2, x3, x4, x5, x6, x7] u HU rfl h0 h1 _ (‹_ ∧ SumS _ _ _ _ _ _ _ _ _ _ _ _ _ _ _ _ _›).2.raw).mono ?_; rintro e9 w2 ⟨rfl, hc2⟩; have HP2 := Lib.hid ((‹_ ∧ SumS _ _ _ _ _ _ _ _ _ _ _ _ _ _ _ _ _›).2.chg hc2); have lw2 : w1.heap.size ≤ w2.heap.size := (by have := hc2.size; simp at this; omega); try (have z2 : StAt w2 w1.heap.size 126 0 0 0 0 := hc2.keep (heap_new' _ _ _ rfl) (by simp)); clear hc2)) | (go_at_call 70; go_must (refine (take8 u uok x0 x1 x2 x3 x4 x5 x6 m HR8.out t HT _).mono ?_; rintro e9 w3 ⟨rfl, hc3⟩; have HP3 := Lib.hid ((‹_ ∧ SumS _ _ _ _ _ _ _ _ _ _ _ _ _ _ _ _ _›).2.chg hc3); first | (have z3 : StAt w3 w1.heap.size 126 0 0 0 0 := hc3.keep z2 (by simp); have HP4 := Lib.hid (HP3.out.set4 z3 (by omega) (by omega) (by have := hC1.size; omega) t); have m0 := z3.c0; have m1 := z3.c1; have m2 := z3.c2; have m3 := z3.c3; have f0 := z3.fr 0; have f1 := z3.fr 1; have f2 := z3.fr 2; have f3 := z3.fr 3) | (have z3 : StAt w3 w2.heap.size 126 0 0 0 0 := hc3.keep (heap_new' _ _ _ rfl) (by simp); have HP4 := Lib.hid (HP3.out.set4 z3 (by omega) (by omega) (by have := hC1.size; omega) t); have m0 := z3.c0; have m1 := z3.c1; have m2 := z3.c2; have m3 := z3.c3; have f0 := z3.fr 0; have f1 := z3.fr 1; have f2 := z3.fr 2; have f3 := z3.fr 3) | skip; clear hc3)))
  · have Z : StAt (w3.alloc (.cells #[.int .u64 t.a, .int .u64 t.b, .int .u64 t.c, .int .u64 t.d] 126)) w3.heap.size 126 t.a t.b t.c t.d := heap_new _ _
    have HC : Chg [] w (w3.alloc (.cells #[.int .u64 t.a, .int .u64 t.b, .int .u64 t.c, .int .u64 t.d] 126)) := HP3.out.c.alloc _
    obtain ⟨q, hq⟩ : ∃ q, q = w3.heap.size := ⟨_, rfl⟩
    have hwq : w.heap.size ≤ q := by have := HP3.out.c.size; omega
    generalize w3.alloc (.cells #[.int .u64 t.a, .int .u64 t.b, .int .u64 t.c, .int .u64 t.d] 126) = W at Z HC ⊢
    rw [← hq] at Z ⊢
    clear hq
    have k0 := Z.c0
    have k1 := Z.c1
    have k2 := Z.c2
    have k3 := Z.c3
    have f2 := Z.fr 2
    go_wp2_with fail
    refine (round4 ⟨t.a, t.b, c1, t.d⟩ ⟨tok.1, tok.2.1, lc1, tok.2.2.2⟩ s1 HS1 _).mono ?_
    rintro e v1 ⟨rfl, d1⟩
    go_wp2_with fail
    refine (round4 s1 ok1 s2 HS2 _).mono ?_
    rintro e v2 ⟨rfl, d2⟩
    go_wp2_with fail
    refine (round4 s2 ok2 s3 HS3 _).mono ?_
    rintro e v3 ⟨rfl, d3⟩
    go_wp2_with fail
    refine (round4 s3 ok3 s4 HS4 _).mono ?_
    rintro e v4 ⟨rfl, d4⟩
    have hD : Chg [] (W.setCell ⟨q, 2, none⟩ (.int .u64 c1)) v4 := ((d1.trans d2).trans d3).trans d4
    have Z4 : StAt v4 q 126 t.a t.b c1 t.d := hD.keep (Z.s2 c1) (by simp)
    have HC4 : Chg [] w v4 := (HC.setCell (.inr hwq) _).trans hD
    clear d1 d2 d3 d4 hD k0 k1 k2 k3 f2 Z HC
    have k0 := Z4.c0
    have k1 := Z4.c1
    have k2 := Z4.c2
    have k3 := Z4.c3
    have f0 := Z4.fr 0
    have f1 := Z4.fr 1
    have f2 := Z4.fr 2
    have f3 := Z4.fr 3
    go_wp2_with fail
    go_ret
    refine ⟨rfl, ?_⟩
    iterate 4 (refine Chg.setCell ?_ (.inr hwq) _)
    exact HC4
  · have Z := (((z3.s0 t.a).s1 t.b).s2 t.c).s3 t.d
    have HC := HP4.out.c
    obtain ⟨q, hq⟩ : ∃ q, q = w2.heap.size := ⟨_, rfl⟩
    have hwq : w.heap.size ≤ q := by have := hC1.size; omega
    rw [← hq] at Z HC ⊢
    generalize (((w3.setCell ⟨q, 0, none⟩ (.int .u64 t.a)).setCell ⟨q, 1, none⟩ (.int .u64 t.b)).setCell ⟨q, 2, none⟩ (.int .u64 t.c)).setCell ⟨q, 3, none⟩ (.int .u64 t.d) = W at Z HC ⊢
    clear hq m0 m1 m2 m3 f0 f1 f2 f3
    have k0 := Z.c0
    have k1 := Z.c1
    have k2 := Z.c2
    have k3 := Z.c3
    have f2 := Z.fr 2
    go_wp2_with fail
    refine (round4 ⟨t.a, t.b, c1, t.d⟩ ⟨tok.1, tok.2.1, lc1, tok.2.2.2⟩ s1 HS1 _).mono ?_
    rintro e v1 ⟨rfl, d1⟩
    go_wp2_with fail
    refine (round4 s1 ok1 s2 HS2 _).mono ?_
    rintro e v2 ⟨rfl, d2⟩
    go_wp2_with fail
    refine (round4 s2 ok2 s3 HS3 _).mono ?_
    rintro e v3 ⟨rfl, d3⟩
    go_wp2_with fail
    refine (round4 s3 ok3 s4 HS4 _).mono ?_
    rintro e v4 ⟨rfl, d4⟩
    have hD : Chg [] (W.setCell ⟨q, 2, none⟩ (.int .u64 c1)) v4 := ((d1.trans d2).trans d3).trans d4
    have Z4 : StAt v4 q 126 t.a t.b c1 t.d := hD.keep (Z.s2 c1) (by simp)
    have HC4 : Chg [] w v4 := (HC.setCell (.inr hwq) _).trans hD
    clear d1 d2 d3 d4 hD k0 k1 k2 k3 f2 Z HC
    have k0 := Z4.c0
    have k1 := Z4.c1
    have k2 := Z4.c2
    have k3 := Z4.c3
    have f0 := Z4.fr 0
    have f1 := Z4.fr 1
    have f2 := Z4.fr 2
    have f3 := Z4.fr 3
    go_wp2_with fail
    go_ret
    refine ⟨rfl, ?_⟩
    iterate 4 (refine Chg.setCell ?_ (.inr hwq) _)
    exact HC4
  · have Z := (((z3.s0 t.a).s1 t.b).s2 t.c).s3 t.d
    have HC := HP4.out.c
    obtain ⟨q, hq⟩ : ∃ q, q = w1.heap.size := ⟨_, rfl⟩
    have hwq : w.heap.size ≤ q := by have := hC1.size; omega
    rw [← hq] at Z HC ⊢
    generalize (((w3.setCell ⟨q, 0, none⟩ (.int .u64 t.a)).setCell ⟨q, 1, none⟩ (.int .u64 t.b)).setCell ⟨q, 2, none⟩ (.int .u64 t.c)).setCell ⟨q, 3, none⟩ (.int .u64 t.d) = W at Z HC ⊢
    clear hq m0 m1 m2 m3 f0 f1 f2 f3
    have k0 := Z.c0
    have k1 := Z.c1
    have k2 := Z.c2
    have k3 := Z.c3
    have f2 := Z.fr 2
    go_wp2_with fail
    refine (round4 ⟨t.a, t.b, c1, t.d⟩ ⟨tok.1, tok.2.1, lc1, tok.2.2.2⟩ s1 HS1 _).mono ?_
    rintro e v1 ⟨rfl, d1⟩
    go_wp2_with fail
    refine (round4 s1 ok1 s2 HS2 _).mono ?_
    rintro e v2 ⟨rfl, d2⟩
    go_wp2_with fail
    refine (round4 s2 ok2 s3 HS3 _).mono ?_
    rintro e v3 ⟨rfl, d3⟩
    go_wp2_with fail
    refine (round4 s3 ok3 s4 HS4 _).mono ?_
    rintro e v4 ⟨rfl, d4⟩
    have hD : Chg [] (W.setCell ⟨q, 2, none⟩ (.int .u64 c1)) v4 := ((d1.trans d2).trans d3).trans d4
    have Z4 : StAt v4 q 126 t.a t.b c1 t.d := hD.keep (Z.s2 c1) (by simp)
    have HC4 : Chg [] w v4 := (HC.setCell (.inr hwq) _).trans hD
    clear d1 d2 d3 d4 hD k0 k1 k2 k3 f2 Z HC
    have k0 := Z4.c0
    have k1 := Z4.c1
    have k2 := Z4.c2
    have k3 := Z4.c3
    have f0 := Z4.fr 0
    have f1 := Z4.fr 1
    have f2 := Z4.fr 2
    have f3 := Z4.fr 3
    go_wp2_with fail
    go_ret
    refine ⟨rfl, ?_⟩
    iterate 4 (refine Chg.setCell ?_ (.inr hwq) _)
    exact HC4

end Go.Proofs.Ytgdnfempcjlipaa.Si

namespace Go.Proofs.Ytgdnfempcjlipaa.Si
open Go.RowKit

set_option maxRecDepth 100000 in
theorem sum_any (b k0 k1 : Nat) (l : List Nat) (w : World) (h : HashAt w b k0 k1 l) (hl : l.length ≤ 4000000000) :
    Calls Try.prog 53 #[.pointer (some ⟨b, 0, none⟩)] w fun e w' => e = .returned (.int .u64 (sipN k0 k1 l : Nat)) ∧ Chg [] w w' := by
  obtain ⟨h0, h1, hb, v, hv, hva, hraw⟩ := h
  refine (sum_raw b k0 k1 v _ l.length w hraw h0 h1 hv (restN_lt l hb) hl).mono ?_
  rintro e w' ⟨rfl, hc⟩
  refine ⟨?_, hc⟩
  have : beforeN k0 k1 v l.length 7 = afterN (beginN k0 k1) l (l.length / 8) := by
    unfold beforeN
    by_cases h7 : l.length ≤ 7
    · rw [if_pos h7, show l.length / 8 = 0 by omega]; rfl
    · rw [if_neg h7]; exact hva (by omega)
  rw [this]
  rfl

set_option maxRecDepth 100000 in
theorem len_any (b k0 k1 : Nat) (l : List Nat) (w : World) (h : HashAt w b k0 k1 l) :
    Calls Try.prog 100 #[.pointer (some ⟨b, 0, none⟩)] w fun e w' => e = .returned (.int .i64 l.length) ∧ w = w' := by
  obtain ⟨h0, h1, hb, v, hv, hva, hraw⟩ := h
  exact len_raw b k0 k1 _ v _ w hraw

set_option maxRecDepth 100000 in
theorem make_any (k0 k1 : Nat) (w : World) (h0 : k0 < 18446744073709551616) (h1 : k1 < 18446744073709551616) :
    Calls Try.prog 51 #[.int .u64 k0, .int .u64 k1] w fun e w' => e = .returned (.pointer (some ⟨w.heap.size, 0, none⟩)) ∧ HashAt w' w.heap.size k0 k1 [] ∧ Chg [] w w' := by
  refine (new_any k0 k1 w).mono ?_
  rintro e w' ⟨rfl, hr, hc⟩
  exact ⟨rfl, hash_new hr h0 h1, hc⟩

def exS : ByteArray := ⟨#[0, 1, 2, 3, 4, 5, 6, 7, 8, 9, 10, 11, 12, 13, 14]⟩

end Go.Proofs.Ytgdnfempcjlipaa.Si
