/- Items of timers in memory; the walks of rank, before. -/
import Derived.Test.YtlkhaookdmgbnaaChecked
import Derived.Test.YtlkhaookdmgbnaaMem
import Derived.Test.YtlkhaookdmgbnaaTimPl
import Derived.WalkLawsBesides
import Derived.WalkSpells
import Derived.Outline
import Derived.Deep.QuietTactic
import Derived.BigQuiet
import Derived.Deep.RegionHeld3
import Derived.RegionTactic
import Derived.BigRegion
namespace Go.Proofs.Ytlkhaookdmgbnaa
open Go.RowKit

/-- The block g holds a thing; its place in the queue is k. -/
def ItemAt (w : World) (g : Nat) (x : It) (k : Nat) : Prop := w.heap[g]? = some (.cells #[.int .i64 x.id, .int .i64 x.due, .int .u64 x.put, .int .i64 k] 67 (0, 0))
theorem ItemAt.c0 {w : World} {g : Nat} {x : It} {k : Nat} (h : ItemAt w g x k) : w.cell? ⟨g, 0, none⟩ = some (.int .i64 x.id) := (cell_of h).trans rfl
theorem ItemAt.c1 {w : World} {g : Nat} {x : It} {k : Nat} (h : ItemAt w g x k) : w.cell? ⟨g, 1, none⟩ = some (.int .i64 x.due) := (cell_of h).trans rfl
theorem ItemAt.c2 {w : World} {g : Nat} {x : It} {k : Nat} (h : ItemAt w g x k) : w.cell? ⟨g, 2, none⟩ = some (.int .u64 x.put) := (cell_of h).trans rfl
theorem ItemAt.c3 {w : World} {g : Nat} {x : It} {k : Nat} (h : ItemAt w g x k) : w.cell? ⟨g, 3, none⟩ = some (.int .i64 k) := (cell_of h).trans rfl
theorem ItemAt.fr {w : World} {g : Nat} {x : It} {k : Nat} (h : ItemAt w g x k) (i : Nat) : w.frozen? ⟨g, i, none⟩ = false := free_of h
theorem ItemAt.lt {w : World} {g : Nat} {x : It} {k : Nat} (h : ItemAt w g x k) : g < w.heap.size := lt_of_block h
theorem ItemAt.chg {w w' : World} {S : List Nat} {g : Nat} {x : It} {k : Nat} (h : ItemAt w g x k) (hc : Chg S w w') (hg : g ∉ S) : ItemAt w' g x k := hc.keep h hg
theorem ItemAt.move {w : World} {g : Nat} {x : It} {k : Nat} (h : ItemAt w g x k) (m : Nat) : ItemAt (w.setCell ⟨g, 3, none⟩ (.int .i64 m)) g x m := by
  unfold ItemAt
  rw [heap_set h]
  rfl

theorem rank_any (g k : Nat) (x : It) (w : World) (h : ItemAt w g x k) :
    Calls Try.prog 54 #[.pointer (some ⟨g, 0, none⟩)] w fun e w' => e = .returned (.tuple #[.int .i64 x.due, .int .u64 x.put]) ∧ ∃ n, w' = w.drewN n := by
  have c1 := h.c1
  have c2 := h.c2
  go_enter Try.func54, Try.ntmps54
  go_wp2_with fail
  go_quiet (fail)
  go_wp2
  go_ret2
  exact ⟨rfl, _, rfl⟩

theorem m_rank (a : Addr) (w : World) : (method 201 64 (.pointer (some a)) "hustings/timer.rank").run Try.prog w = .ok (54, .pointer (some a)) w := by kernel_rfl

set_option maxHeartbeats 1000000 in
theorem before_any (g m k l : Nat) (x y : It) (w : World) (h : ItemAt w g x k) (h2 : ItemAt w m y l) (B : Bool) (hB : Hid (B = ltI x y)) :
    Calls Try.prog 53 #[.iface 64 (.pointer (some ⟨g, 0, none⟩)), .iface 64 (.pointer (some ⟨m, 0, none⟩))] w fun e w' => e = .returned (.bool B) ∧ ∃ n, w' = w.drewN n := by
  have hm := m_rank
  by_cases hd : x.due = y.due
  · have hB2 : B = decide (x.put < y.put) := by rw [hB.out]; unfold ltI; simp [hd]
    have e1 : (x.due == y.due) = true := by simpa using hd
    have e2 : (x.due != y.due) = false := by simp [hd]
    have HB := Lib.hid hB2
    clear hB hB2 hd
    go_enter Try.func53, Try.ntmps53
    go_wp2_with fail
    refine (rank_any g k x _ h).mono ?_
    rintro e w1 ⟨rfl, n1, rfl⟩
    go_wp2_with fail
    refine (rank_any m l y (w.drewN n1) h2).mono ?_
    rintro e w1 ⟨rfl, n2, rfl⟩
    go_wp2
    go_ret
    refine ⟨?_, _, rfl⟩
    rw [HB.out]
    simp
  · have hB2 : B = decide (x.due < y.due) := by rw [hB.out]; unfold ltI; simp [hd]
    have e2 : (x.due != y.due) = true := by simp [hd]
    have HB := Lib.hid hB2
    clear hB hB2
    go_enter Try.func53, Try.ntmps53
    go_wp2_with fail
    refine (rank_any g k x _ h).mono ?_
    rintro e w1 ⟨rfl, n1, rfl⟩
    go_wp2_with fail
    refine (rank_any m l y (w.drewN n1) h2).mono ?_
    rintro e w1 ⟨rfl, n2, rfl⟩
    go_wp2
    go_ret
    refine ⟨?_, _, rfl⟩
    rw [HB.out]
    rfl

end Go.Proofs.Ytlkhaookdmgbnaa
