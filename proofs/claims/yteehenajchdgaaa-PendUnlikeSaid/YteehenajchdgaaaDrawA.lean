/- The walks of package draw: mixed, the source of a tape, Next, Used, Below. -/
import Derived.Test.YteehenajchdgaaaChecked
import Derived.Test.YteehenajchdgaaaMem
import Derived.Test.YteehenajchdgaaaDrawPl
import Derived.WalkLawsBesides
import Derived.Outline
import Derived.Deep.QuietTactic
import Derived.BigQuiet
namespace Go.Proofs.Yteehenajchdgaaa.D
open Go.RowKit

theorem ret_int {k : IntKind} {a b : Int} (h : a = b) : Ending.returned (.int k a) = .returned (.int k b) := by rw [h]

theorem mixed_any (x : Nat) (hx : x < 18446744073709551616) (w : World) :
    Calls Try.prog 40 #[.int .u64 x] w fun e w' => e = .returned (.int .u64 (mixN x)) ∧ w = w' := by
  go_enter Try.func40, Try.ntmps40
  go_wp2
  go_ret
  refine ⟨ret_int ?_, rfl⟩
  have e1 := mixStep_u64 x 1073741824 13787848793156543929 hx
  have hb1 : (x ^^^ x / 1073741824) * 13787848793156543929 % 18446744073709551616 < 18446744073709551616 := Nat.mod_lt _ (by decide)
  have e2 := mixStep_u64 _ 134217728 10723151780598845931 hb1
  have e3 := xorShift_u64 (((x ^^^ x / 1073741824) * 13787848793156543929 % 18446744073709551616 ^^^ (x ^^^ x / 1073741824) * 13787848793156543929 % 18446744073709551616 / 134217728) * 10723151780598845931 % 18446744073709551616) 2147483648 (Nat.mod_lt _ (by decide))
  rw [show ((1073741824 : Nat) : Int) = 1073741824 from rfl, show ((13787848793156543929 : Nat) : Int) = 13787848793156543929 from rfl] at e1
  rw [show ((134217728 : Nat) : Int) = 134217728 from rfl, show ((10723151780598845931 : Nat) : Int) = 10723151780598845931 from rfl] at e2
  rw [show ((2147483648 : Nat) : Int) = 2147483648 from rfl] at e3
  rw [e1, e2, e3]
  rfl

/-- The slice v reads as the numbers l; it lies in a block of its own of type 22. -/
def Nums (w : World) (v : Value) (l : List Nat) : Prop :=
  l.length ≤ maxLen ∧ (∀ x ∈ l, x < 18446744073709551616) ∧
  ((l = [] ∧ ∃ a c, v = .slice a 0 c) ∨
   ∃ r c cs f, v = .slice (some ⟨r, 0, none⟩) l.length c ∧ w.heap[r]? = some (.cells cs 22 f) ∧ ∀ i (h : i < l.length), cs[i]? = some (.int .u64 l[i]))

theorem source_in (k : Nat) (l : List Nat) (nb sb : Nat) (v x : Value) (w : World) (hn : w.heap[nb]? = some (.cells #[v] 23 (0, 0)))
    (hv : Nums w v l) (hk : k < l.length) :
    Calls Try.prog 39 #[.int .i64 k, .pointer (some ⟨nb, 0, none⟩), x] w fun e w' => e = .returned (.int .u64 l[k]) ∧ w = w' := by
  obtain ⟨hm, hb, hv⟩ := hv
  rcases hv with ⟨rfl, _⟩ | ⟨r, c, cs, f, rfl, hr, hcs⟩
  · simp at hk
  have h1 := cell_of (i := 0) hn
  simp at h1
  have h2 : w.cell? ⟨r, k, none⟩ = some (.int .u64 l[k]) := (cell_of hr).trans (hcs k hk)
  have h3 := Lib.hid h2
  have hbb := Lib.hid hb
  have hcc := Lib.hid hcs
  clear hcs hb
  unfold maxLen at hm
  clear hn hr
  go_enter Try.func39, Try.ntmps39
  go_wp2
  go_ret
  exact ⟨rfl, rfl⟩

theorem mixed_at (x : Int) (n r : Nat) (e : x = n) (hr : r = mixN n) (hn : n < 18446744073709551616) (w : World) :
    Calls Try.prog 40 #[.int .u64 x] w fun e w' => e = .returned (.int .u64 r) ∧ w = w' := by
  subst e; subst hr; exact mixed_any n hn w

theorem wrapu (n : Nat) : IntKind.u64.wrap (n : Int) = ((n % 18446744073709551616 : Nat) : Int) := by
  rw [IntKind.wrap_u64]; omega

theorem source_out (k seed : Nat) (l : List Nat) (nb sb : Nat) (v : Value) (w : World) (hn : w.heap[nb]? = some (.cells #[v] 23 (0, 0)))
    (hs : w.heap[sb]? = some (.cells #[.int .u64 seed] 22 (0, 0))) (hv : Nums w v l) (hk : l.length ≤ k) (hk2 : k < 4611686018427387904) :
    Calls Try.prog 39 #[.int .i64 k, .pointer (some ⟨nb, 0, none⟩), .pointer (some ⟨sb, 0, none⟩)] w fun e w' => e = .returned (.int .u64 (drawN seed l k)) ∧ w = w' := by
  obtain ⟨hm, hb, hv⟩ := hv
  have hv' : ∃ a c, v = .slice a l.length c := by
    rcases hv with ⟨rfl, a, c, rfl⟩ | ⟨r, c, cs, f, rfl, hr, hcs⟩
    · exact ⟨a, c, rfl⟩
    · exact ⟨_, _, rfl⟩
  obtain ⟨a, c, rfl⟩ := hv'
  have h1 := cell_of (i := 0) hn
  simp at h1
  have h2 := cell_of (i := 0) hs
  simp at h2
  unfold maxLen at hm
  have hd : Hid (drawN seed l k = mixN ((seed + (k - l.length + 1) * 11400714819323198485 % 18446744073709551616) % 18446744073709551616)) := by
    show _ = _
    unfold drawN
    rw [dif_neg (by omega)]
    congr 1
    omega
  clear hb hv hn hs
  have hk3 : ¬ ((k : Int) < (l.length : Int)) := by omega
  go_enter Try.func39, Try.ntmps39
  go_wp2_with fail
  refine (mixed_at _ _ (drawN seed l k) (by simp only [IntKind.wrap_u64]; omega) hd.out (Nat.mod_lt _ (by decide)) _).mono ?_
  rintro e w' ⟨rfl, rfl⟩
  go_wp2
  go_ret
  exact ⟨rfl, rfl⟩

end Go.Proofs.Yteehenajchdgaaa.D
