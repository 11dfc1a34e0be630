/- Timers, as plain data: things by their readings and by when they were put; rows that are heaps. Items of timers in memory; the walks of rank, before. The queue of timers in memory; the walks of Len, Less, Swap. The walks of the library's heap: up, down. The walk of the library's heap: down. The library's heap: Fix; the queue's Push and Pop; Push, Remove. The queue's Push and Pop; the library's Push and Remove. The queue's Push; the library's Push and Remove. The library's Push and Remove. Timers, as plain data: the things in the row in which they were put; put, drop; what is first. A map from numbers to pointers, by what it holds at each number. Timers in memory; the walks of New, Len, At, Next. Timers: the walks of Drop and Put. Timers: the walk of Put. Timers: the walk of Put. Timers: the walk of Put, of what was not there. -/
import Derived.WalkKit
import Derived.Test.YtgdnfempcjlipaaChecked
import Derived.Test.YtgdnfempcjlipaaBaseZ
import Derived.WalkLawsBesides
import Derived.WalkSpells
import Derived.Outline
import Derived.Deep.QuietTactic
import Derived.BigQuiet
import Derived.Deep.RegionHeld3
import Derived.RegionTactic
import Derived.BigRegion
import Derived.IntWalk
import Derived.Maps.OwnSet
import Derived.Maps.OwnOps

namespace Go.Proofs.Ytgdnfempcjlipaa.Ti

/-- A thing: its number, when it is due, when it was put. -/
structure It where
  id : Int
  due : Int
  put : Nat
deriving DecidableEq

/-- Does one come ahead of another one? -/
def ltI (a b : It) : Bool := decide (a.due < b.due) || (decide (a.due = b.due) && decide (a.put < b.put))
set_option maxRecDepth 100000 in
theorem ltI_iff {a b : It} : ltI a b = true ↔ a.due < b.due ∨ (a.due = b.due ∧ a.put < b.put) := by simp [ltI]
set_option maxRecDepth 100000 in
theorem ltI_no {a b : It} : ltI a b = false ↔ b.due < a.due ∨ (a.due = b.due ∧ b.put ≤ a.put) := by
  rw [← Bool.not_eq_true, ltI_iff]; omega
/-- Not behind. -/
def leI (a b : It) : Prop := ltI b a = false
set_option maxRecDepth 100000 in
theorem leI_iff {a b : It} : leI a b ↔ a.due < b.due ∨ (a.due = b.due ∧ a.put ≤ b.put) := by
  unfold leI; rw [ltI_no]; omega
set_option maxRecDepth 100000 in
theorem leI_refl (a : It) : leI a a := by rw [leI_iff]; omega
set_option maxRecDepth 100000 in
theorem leI_trans {a b c : It} (h : leI a b) (k : leI b c) : leI a c := by rw [leI_iff] at *; omega
set_option maxRecDepth 100000 in
theorem leI_of_lt {a b : It} (h : ltI a b = true) : leI a b := by rw [ltI_iff] at h; rw [leI_iff]; omega
set_option maxRecDepth 100000 in
theorem leI_total (a b : It) : leI a b ∨ leI b a := by rw [leI_iff, leI_iff]; omega

def itZ : It := ⟨0, 0, 0⟩
/-- Each is not ahead of the one above it. -/
def HeapI (l : List It) : Prop := ∀ i, 0 < i → i < l.length → leI (l.getD ((i - 1) / 2) itZ) (l.getD i itZ)
set_option maxRecDepth 100000 in
theorem heap_root {l : List It} (h : HeapI l) : ∀ i, i < l.length → leI (l.getD 0 itZ) (l.getD i itZ) := by
  intro i
  induction i using Nat.strongRecOn with
  | _ i ih =>
    intro hi
    by_cases h0 : i = 0
    · subst h0; exact leI_refl _
    · exact leI_trans (ih ((i - 1) / 2) (by omega) (by omega)) (h i (by omega) hi)
set_option maxRecDepth 100000 in
theorem heap_nil : HeapI [] := fun i _ h => by simp at h

/-- Two change places. -/
def swapI {α : Type} (z : α) (l : List α) (i j : Nat) : List α := (l.set i (l.getD j z)).set j (l.getD i z)
set_option maxRecDepth 100000 in
theorem swapI_length {α : Type} (z : α) (l : List α) (i j : Nat) : (swapI z l i j).length = l.length := by simp [swapI]
set_option maxRecDepth 100000 in
theorem swapI_get {α : Type} (z : α) (l : List α) (i j k : Nat) (hi : i < l.length) (hj : j < l.length) : (swapI z l i j).getD k z = if k = j then l.getD i z else if k = i then l.getD j z else l.getD k z := by
  unfold swapI
  simp only [List.getD_eq_getElem?_getD, List.getElem?_set, List.length_set]
  by_cases h1 : k = j
  · subst h1
    rw [if_pos rfl, if_pos rfl, if_pos hj]
    simp
  · rw [if_neg (by omega), if_neg h1]
    by_cases h2 : k = i
    · subst h2
      rw [if_pos rfl, if_pos rfl, if_pos hi]
      simp
    · rw [if_neg (by omega), if_neg h2]
set_option maxRecDepth 100000 in
theorem swapI_perm {α : Type} (z : α) (l : List α) (i j : Nat) (hi : i < l.length) (hj : j < l.length) : (swapI z l i j).Perm l := by
  unfold swapI
  have e1 : l.getD j z = l[j] := by simp [hj]
  have e2 : l.getD i z = l[i] := by simp [hi]
  rw [e1, e2]
  exact List.set_set_perm hi hj

/-- The first n are a heap. -/
def HeapN (l : List It) (n : Nat) : Prop := ∀ i, 0 < i → i < n → leI (l.getD ((i - 1) / 2) itZ) (l.getD i itZ)
set_option maxRecDepth 100000 in
theorem heapN_all {l : List It} (h : HeapN l l.length) : HeapI l := h
/-- The first n are a heap but for the one at j, which may stand too low. -/
def UpN (l : List It) (n j : Nat) : Prop :=
  (∀ i, 0 < i → i < n → i ≠ j → leI (l.getD ((i - 1) / 2) itZ) (l.getD i itZ)) ∧
  ∀ c, 0 < c → c < n → (c - 1) / 2 = j → 0 < j → leI (l.getD ((j - 1) / 2) itZ) (l.getD c itZ)
set_option maxRecDepth 100000 in
theorem up_end {l : List It} {n j : Nat} (h : UpN l n j) (hle : j = 0 ∨ ltI (l.getD j itZ) (l.getD ((j - 1) / 2) itZ) = false) : HeapN l n := by
  intro i h0 hi
  by_cases e : i = j
  · subst e
    rcases hle with hh | hh
    · omega
    · exact hh
  · exact h.1 i h0 hi e
set_option maxRecDepth 100000 in
theorem up_step {l : List It} {n j : Nat} (h : UpN l n j) (hn : n ≤ l.length) (hj : j < n) (h0 : 0 < j) (hlt : ltI (l.getD j itZ) (l.getD ((j - 1) / 2) itZ) = true) : UpN (swapI itZ l ((j - 1) / 2) j) n ((j - 1) / 2) := by
  have hp : (j - 1) / 2 < l.length := by omega
  have hjl : j < l.length := by omega
  have hle := leI_of_lt hlt
  obtain ⟨p, hpd⟩ : ∃ p, p = (j - 1) / 2 := ⟨_, rfl⟩
  rw [← hpd] at hp hle hlt ⊢
  have hpj : p ≠ j := by omega
  have hpn : p < n := by omega
  constructor
  · intro i hi0 hi hne
    rw [swapI_get itZ l p j _ hp hjl, swapI_get itZ l p j _ hp hjl]
    by_cases e : i = j
    · subst e
      rw [if_pos rfl, ← hpd, if_neg hpj, if_pos rfl]
      exact hle
    · rw [if_neg e, if_neg hne]
      by_cases e2 : (i - 1) / 2 = j
      · rw [if_pos e2]
        have := h.2 i hi0 hi e2 h0
        rw [← hpd] at this
        exact this
      · rw [if_neg e2]
        by_cases e3 : (i - 1) / 2 = p
        · rw [if_pos e3]
          have := h.1 i hi0 hi e
          rw [e3] at this
          exact leI_trans hle this
        · rw [if_neg e3]
          exact h.1 i hi0 hi e
  · intro c hc0 hc hcp hp0
    rw [swapI_get itZ l p j _ hp hjl, swapI_get itZ l p j _ hp hjl]
    have hpp : (p - 1) / 2 ≠ j := by omega
    have hpp2 : (p - 1) / 2 ≠ p := by omega
    rw [if_neg hpp, if_neg hpp2]
    have hup : leI (l.getD ((p - 1) / 2) itZ) (l.getD p itZ) := h.1 p hp0 hpn hpj
    by_cases e : c = j
    · rw [if_pos e]; exact hup
    · rw [if_neg e]
      by_cases e2 : c = p
      · omega
      · rw [if_neg e2]
        have := h.1 c hc0 hc e
        rw [hcp] at this
        exact leI_trans hup this

/-- A heap of the first n but for the one at i, which may stand too high. -/
def DownI (l : List It) (n i : Nat) : Prop :=
  (∀ c, 0 < c → c < n → (c - 1) / 2 ≠ i → leI (l.getD ((c - 1) / 2) itZ) (l.getD c itZ)) ∧
  ∀ c, 0 < c → c < n → (c - 1) / 2 = i → 0 < i → leI (l.getD ((i - 1) / 2) itZ) (l.getD c itZ)
set_option maxRecDepth 100000 in
theorem down_end {l : List It} {n i : Nat} (h : DownI l n i) (hch : ∀ c, 0 < c → c < n → (c - 1) / 2 = i → leI (l.getD i itZ) (l.getD c itZ)) : HeapN l n := by
  intro c h0 hc
  by_cases e : (c - 1) / 2 = i
  · rw [e]; exact hch c h0 hc e
  · exact h.1 c h0 hc e
set_option maxRecDepth 100000 in
theorem down_step {l : List It} {n i j : Nat} (h : DownI l n i) (hn : n ≤ l.length) (hj : j < n) (hj0 : 0 < j) (hp : (j - 1) / 2 = i) (hlt : ltI (l.getD j itZ) (l.getD i itZ) = true) (hmin : ∀ c, 0 < c → c < n → (c - 1) / 2 = i → leI (l.getD j itZ) (l.getD c itZ)) : DownI (swapI itZ l i j) n j := by
  have hi : i < l.length := by omega
  have hjl : j < l.length := by omega
  have hle := leI_of_lt hlt
  have hij : i ≠ j := by omega
  constructor
  · intro c hc0 hc hne
    rw [swapI_get itZ l i j _ hi hjl, swapI_get itZ l i j _ hi hjl]
    rw [if_neg hne]
    by_cases e : (c - 1) / 2 = i
    · rw [if_pos e]
      by_cases e2 : c = j
      · rw [if_pos e2]; exact hle
      · rw [if_neg e2, if_neg (by omega)]
        exact hmin c hc0 hc e
    · rw [if_neg e]
      by_cases e2 : c = j
      · omega
      · rw [if_neg e2]
        by_cases e3 : c = i
        · rw [if_pos e3]
          subst e3
          exact h.2 j hj0 hj hp hc0
        · rw [if_neg e3]
          exact h.1 c hc0 hc e
  · intro c hc0 hc hcp _
    rw [swapI_get itZ l i j _ hi hjl, swapI_get itZ l i j _ hi hjl]
    rw [hp, if_neg hij, if_pos rfl, if_neg (by omega), if_neg (by omega)]
    have := h.1 c hc0 hc (by omega)
    rw [hcp] at this
    exact this

/-- As 'DownI', but the one at i may stand too low, too. -/
def DownW (l : List It) (n i : Nat) : Prop :=
  (∀ c, 0 < c → c < n → (c - 1) / 2 ≠ i → c ≠ i → leI (l.getD ((c - 1) / 2) itZ) (l.getD c itZ)) ∧
  ∀ c, 0 < c → c < n → (c - 1) / 2 = i → 0 < i → leI (l.getD ((i - 1) / 2) itZ) (l.getD c itZ)
set_option maxRecDepth 100000 in
theorem downW_stay {l : List It} {n i : Nat} (h : DownW l n i) (hch : ∀ c, 0 < c → c < n → (c - 1) / 2 = i → leI (l.getD i itZ) (l.getD c itZ)) : UpN l n i :=
  ⟨fun c h0 hc hne => by
    by_cases e : (c - 1) / 2 = i
    · rw [e]; exact hch c h0 hc e
    · exact h.1 c h0 hc e hne, h.2⟩
set_option maxRecDepth 100000 in
theorem downW_step {l : List It} {n i j : Nat} (h : DownW l n i) (hn : n ≤ l.length) (hj : j < n) (hj0 : 0 < j) (hp : (j - 1) / 2 = i) (hlt : ltI (l.getD j itZ) (l.getD i itZ) = true) (hmin : ∀ c, 0 < c → c < n → (c - 1) / 2 = i → leI (l.getD j itZ) (l.getD c itZ)) : DownI (swapI itZ l i j) n j := by
  have hi : i < l.length := by omega
  have hjl : j < l.length := by omega
  have hle := leI_of_lt hlt
  have hij : i ≠ j := by omega
  constructor
  · intro c hc0 hc hne
    rw [swapI_get itZ l i j _ hi hjl, swapI_get itZ l i j _ hi hjl]
    rw [if_neg hne]
    by_cases e : (c - 1) / 2 = i
    · rw [if_pos e]
      by_cases e2 : c = j
      · rw [if_pos e2]; exact hle
      · rw [if_neg e2, if_neg (by omega)]
        exact hmin c hc0 hc e
    · rw [if_neg e]
      by_cases e2 : c = j
      · omega
      · rw [if_neg e2]
        by_cases e3 : c = i
        · rw [if_pos e3]
          subst e3
          exact h.2 j hj0 hj hp hc0
        · rw [if_neg e3]
          exact h.1 c hc0 hc e e3
  · intro c hc0 hc hcp _
    rw [swapI_get itZ l i j _ hi hjl, swapI_get itZ l i j _ hi hjl]
    rw [hp, if_neg hij, if_pos rfl, if_neg (by omega), if_neg (by omega)]
    have := h.1 c hc0 hc (by omega) (by omega)
    rw [hcp] at this
    exact this
set_option maxRecDepth 100000 in
/-- A thing at i is another one now. -/
theorem heap_changed {l m : List It} {n i : Nat} (h : HeapN l n) (hne : ∀ k, k ≠ i → m.getD k itZ = l.getD k itZ) (hin : i < n) : DownW m n i := by
  constructor
  · intro c h0 hc h1 h2
    rw [hne _ h1, hne _ h2]
    exact h c h0 hc
  · intro c h0 hc h1 h2
    rw [hne _ (by omega), hne c (by omega)]
    have a := h c h0 hc
    rw [h1] at a
    exact leI_trans (h i h2 hin) a
set_option maxRecDepth 100000 in
theorem swapI_map {α β : Type} (f : α → β) (z : α) (l : List α) (i j : Nat) (hi : i < l.length) (hj : j < l.length) : (swapI z l i j).map f = swapI (f z) (l.map f) i j := by
  unfold swapI
  rw [List.map_set, List.map_set]
  simp [hi, hj]
/-- Nothing changed from place n on. -/
def KeepN {α : Type} (z : α) (l m : List α) (n : Nat) : Prop := ∀ k, n ≤ k → m.getD k z = l.getD k z
set_option maxRecDepth 100000 in
theorem KeepN.refl {α : Type} (z : α) (l : List α) (n : Nat) : KeepN z l l n := fun _ _ => rfl
set_option maxRecDepth 100000 in
theorem KeepN.swap {α : Type} {z : α} {l m : List α} {n i j : Nat} (h : KeepN z l m n) (hi : i < n) (hj : j < n) (hil : i < m.length) (hjl : j < m.length) : KeepN z l (swapI z m i j) n := fun k hk => by
  rw [swapI_get z m i j k hil hjl, if_neg (by omega), if_neg (by omega)]
  exact h k hk

end Go.Proofs.Ytgdnfempcjlipaa.Ti

namespace Go.Proofs.Ytgdnfempcjlipaa.Ti
open Go.RowKit

/-- The block g holds a thing; its place in the queue is k. -/
def ItemAt (w : World) (g : Nat) (x : It) (k : Nat) : Prop := w.heap[g]? = some (.cells #[.int .i64 x.id, .int .i64 x.due, .int .u64 x.put, .int .i64 k] 117 (0, 0))
set_option maxRecDepth 100000 in
theorem ItemAt.c0 {w : World} {g : Nat} {x : It} {k : Nat} (h : ItemAt w g x k) : w.cell? ⟨g, 0, none⟩ = some (.int .i64 x.id) := (cell_of h).trans rfl
set_option maxRecDepth 100000 in
theorem ItemAt.c1 {w : World} {g : Nat} {x : It} {k : Nat} (h : ItemAt w g x k) : w.cell? ⟨g, 1, none⟩ = some (.int .i64 x.due) := (cell_of h).trans rfl
set_option maxRecDepth 100000 in
theorem ItemAt.c2 {w : World} {g : Nat} {x : It} {k : Nat} (h : ItemAt w g x k) : w.cell? ⟨g, 2, none⟩ = some (.int .u64 x.put) := (cell_of h).trans rfl
set_option maxRecDepth 100000 in
theorem ItemAt.c3 {w : World} {g : Nat} {x : It} {k : Nat} (h : ItemAt w g x k) : w.cell? ⟨g, 3, none⟩ = some (.int .i64 k) := (cell_of h).trans rfl
set_option maxRecDepth 100000 in
theorem ItemAt.fr {w : World} {g : Nat} {x : It} {k : Nat} (h : ItemAt w g x k) (i : Nat) : w.frozen? ⟨g, i, none⟩ = false := free_of h
set_option maxRecDepth 100000 in
theorem ItemAt.lt {w : World} {g : Nat} {x : It} {k : Nat} (h : ItemAt w g x k) : g < w.heap.size := lt_of_block h
set_option maxRecDepth 100000 in
theorem ItemAt.chg {w w' : World} {S : List Nat} {g : Nat} {x : It} {k : Nat} (h : ItemAt w g x k) (hc : Chg S w w') (hg : g ∉ S) : ItemAt w' g x k := hc.keep h hg
set_option maxRecDepth 100000 in
theorem ItemAt.move {w : World} {g : Nat} {x : It} {k : Nat} (h : ItemAt w g x k) (m : Nat) : ItemAt (w.setCell ⟨g, 3, none⟩ (.int .i64 m)) g x m := by
  unfold ItemAt
  rw [heap_set h]
  rfl

set_option maxRecDepth 100000 in
theorem rank_any (g k : Nat) (x : It) (w : World) (h : ItemAt w g x k) :
    Calls Try.prog 105 #[.pointer (some ⟨g, 0, none⟩)] w fun e w' => e = .returned (.tuple #[.int .i64 x.due, .int .u64 x.put]) ∧ ∃ n, w' = w.drewN n := by
  have c1 := h.c1
  have c2 := h.c2
  go_enter Try.func105, Try.ntmps105
  go_wp2_with fail
  go_quiet (fail)
  go_wp2
  go_ret2
  exact ⟨rfl, _, rfl⟩

set_option maxRecDepth 100000 in
theorem m_rank (a : Addr) (w : World) : (method 269 114 (.pointer (some a)) "hustings/timer.rank").run Try.prog w = .ok (105, .pointer (some a)) w := by kernel_rfl

set_option maxRecDepth 100000 in
set_option maxHeartbeats 1000000 in
theorem before_any (g m k l : Nat) (x y : It) (w : World) (h : ItemAt w g x k) (h2 : ItemAt w m y l) (B : Bool) (hB : Hid (B = ltI x y)) :
    Calls Try.prog 104 #[.iface 114 (.pointer (some ⟨g, 0, none⟩)), .iface 114 (.pointer (some ⟨m, 0, none⟩))] w fun e w' => e = .returned (.bool B) ∧ ∃ n, w' = w.drewN n := by
  have hm := m_rank
  by_cases hd : x.due = y.due
  · have hB2 : B = decide (x.put < y.put) := by rw [hB.out]; unfold ltI; simp [hd]
    have e1 : (x.due == y.due) = true := by simpa using hd
    have e2 : (x.due != y.due) = false := by simp [hd]
    have HB := Lib.hid hB2
    clear hB hB2 hd
    go_enter Try.func104, Try.ntmps104
    go_wp2_with fail
    refine (rank_any g k x _ h).mono ?_
    rintro e w1 ⟨rfl, n1, rfl⟩
    go_wp2_with fail
    refine (rank_any m l y (w.drewN n1) h2).mono ?_
    rintro e w1 ⟨rfl, n2, rfl⟩
    go_wp2
    go_ret
    refine ⟨?_, _, rfl⟩
    rw [HB.out]
    simp
  · have hB2 : B = decide (x.due < y.due) := by rw [hB.out]; unfold ltI; simp [hd]
    have e2 : (x.due != y.due) = true := by simp [hd]
    have HB := Lib.hid hB2
    clear hB hB2
    go_enter Try.func104, Try.ntmps104
    go_wp2_with fail
    refine (rank_any g k x _ h).mono ?_
    rintro e w1 ⟨rfl, n1, rfl⟩
    go_wp2_with fail
    refine (rank_any m l y (w.drewN n1) h2).mono ?_
    rintro e w1 ⟨rfl, n2, rfl⟩
    go_wp2
    go_ret
    refine ⟨?_, _, rfl⟩
    rw [HB.out]
    rfl

end Go.Proofs.Ytgdnfempcjlipaa.Ti

namespace Go.Proofs.Ytgdnfempcjlipaa.Ti
open Go.RowKit

set_option maxRecDepth 100000 in
theorem run_wrapchk {P : Program} (t : TypeId) (a : Addr) (s n : String) (w : World) : (Builtin.ssaWrapNilChk_ #[t] t #[.pointer (some a), strVal s, strVal n]).run P w = .ok (.pointer (some a)) w := by rfl
set_option maxRecDepth 100000 in
theorem run_method_val {P : Program} (t e : TypeId) (name : String) (fuel : Nat) (f : FuncId) (a : Addr) (v : Value) (w : World)
    (hi : ((P.info? t).bind (fun i => i.methods.find? (·.name == name))).map (fun m => (m.path, m.func)) = some (#[], some (f, false))) (hu : P.underlying t = some (.pointer e)) (hl : (loadVar e a).run P w = .ok v w) :
    (method (fuel + 1) t (.pointer (some a)) name).run P w = .ok (f, v) w := by
  cases hq : P.info? t with
  | none => rw [hq] at hi; simp at hi
  | some i =>
    rw [hq] at hi
    simp only [Option.bind_some] at hi
    cases hm : i.methods.find? (·.name == name) with
    | none => rw [hm] at hi; simp at hi
    | some m =>
      rw [hm] at hi
      simp only [Option.map_some, Option.some.injEq, Prod.mk.injEq] at hi
      obtain ⟨hp, hf⟩ := hi
      unfold method
      simp only [Sem.run_bind, typeInfo]
      simp [hq, hm, hp, hf, follow, receiverAt, Place.get, run_underlying hu, Sem.run_bind, run_wrapchk, asAddr, hl]

set_option maxRecDepth 100000 in
theorem ItemAt.drewN {w : World} {g : Nat} {x : It} {k : Nat} (h : ItemAt w g x k) (n : Nat) : ItemAt (w.drewN n) g x k := h
/-- The queue's row in block qb: pointers to the things' blocks, each of which knows its place. -/
structure QAt (w : World) (qb cap : Nat) (Q : List (It × Nat)) : Prop where
  row : ∃ rest : List Value, Q.length + rest.length = cap ∧ w.heap[qb]? = some (.cells ((Q.map fun x => Value.pointer (some ⟨x.2, 0, none⟩)) ++ rest).toArray 114 (0, 0))
  items : ∀ i (h : i < Q.length), ItemAt w Q[i].2 Q[i].1 i
  nodup : (Q.map (·.2)).Nodup
/-- The blocks that belong to a queue. -/
def blksQ (qb : Nat) (Q : List (It × Nat)) : List Nat := qb :: Q.map (·.2)
section
variable {w : World} {qb cap : Nat} {Q : List (It × Nat)}
set_option maxRecDepth 100000 in
theorem QAt.lt (h : QAt w qb cap Q) : qb < w.heap.size := by obtain ⟨_, _, h⟩ := h.row; exact lt_of_block h
set_option maxRecDepth 100000 in
theorem QAt.get (h : QAt w qb cap Q) (i : Nat) (hi : i < Q.length) : w.cell? ⟨qb, i, none⟩ = some (.pointer (some ⟨Q[i].2, 0, none⟩)) := by
  obtain ⟨rest, _, h⟩ := h.row
  rw [cell_of h, List.getElem?_toArray, List.getElem?_append_left (by simpa using hi)]
  simp [hi]
set_option maxRecDepth 100000 in
theorem QAt.fr (h : QAt w qb cap Q) (i : Nat) : w.frozen? ⟨qb, i, none⟩ = false := by obtain ⟨_, _, h⟩ := h.row; exact free_of h
set_option maxRecDepth 100000 in
theorem QAt.ne (h : QAt w qb cap Q) (i : Nat) (hi : i < Q.length) : Q[i].2 ≠ qb := by
  obtain ⟨rest, _, h1⟩ := h.row
  intro e
  have := h.items i hi
  unfold ItemAt at this
  rw [e, h1] at this
  injection this with this
  injection this with _ this
  exact absurd this (by decide)
set_option maxRecDepth 100000 in
theorem QAt.chg {w' : World} {S : List Nat} (h : QAt w qb cap Q) (hc : Chg S w w') (hS : ∀ x ∈ blksQ qb Q, x ∉ S) : QAt w' qb cap Q := by
  obtain ⟨rest, hr, h1⟩ := h.row
  exact ⟨⟨rest, hr, hc.keep h1 (hS _ (by simp [blksQ]))⟩, fun i hi => (h.items i hi).chg hc (hS _ (by simp only [blksQ, List.mem_cons, List.mem_map]; exact .inr ⟨Q[i], List.getElem_mem hi, rfl⟩)), h.nodup⟩
set_option maxRecDepth 100000 in
theorem QAt.drewN (h : QAt w qb cap Q) (n : Nat) : QAt (w.drewN n) qb cap Q := h.chg ((Chg.refl [] _).drewN n) (by simp)
set_option maxRecDepth 100000 in
theorem QAt.apart (h : QAt w qb cap Q) {i j : Nat} (hi : i < Q.length) (hj : j < Q.length) (hne : i ≠ j) : Q[i].2 ≠ Q[j].2 := by
  intro e
  have hn := h.nodup
  rcases Nat.lt_or_gt_of_ne hne with hh | hh
  · exact List.pairwise_iff_getElem.1 hn i j (by simpa using hi) (by simpa using hj) hh (by simpa using e)
  · exact List.pairwise_iff_getElem.1 hn j i (by simpa using hj) (by simpa using hi) hh (by simpa using e.symm)
end

set_option maxRecDepth 100000 in
theorem qlen_any (a : Option Addr) (n c : Nat) (w : World) :
    Calls Try.prog 101 #[.slice a n c] w fun e w' => e = .returned (.int .i64 n) ∧ w = w' := by
  go_enter Try.func101, Try.ntmps101
  go_wp2
  go_ret
  exact ⟨rfl, rfl⟩

set_option maxRecDepth 100000 in
set_option maxHeartbeats 1000000 in
theorem less_any (qb cap i j : Nat) (Q : List (It × Nat)) (w : World) (h : QAt w qb cap Q) (hi : i < Q.length) (hj : j < Q.length) (B : Bool) (hB : Hid (B = ltI (Q[i]).1 (Q[j]).1)) :
    Calls Try.prog 102 #[.slice (some ⟨qb, 0, none⟩) Q.length cap, .int .i64 i, .int .i64 j] w fun e w' => e = .returned (.bool B) ∧ ∃ n, w' = w.drewN n := by
  have c1 := h.get i hi
  have c2 := h.get j hj
  have k1 := h.items i hi
  have k2 := h.items j hj
  obtain ⟨g, hg⟩ : ∃ g, g = Q[i].2 := ⟨_, rfl⟩
  obtain ⟨m, hm⟩ : ∃ m, m = Q[j].2 := ⟨_, rfl⟩
  obtain ⟨x, hx⟩ : ∃ x, x = Q[i].1 := ⟨_, rfl⟩
  obtain ⟨y, hy⟩ : ∃ y, y = Q[j].1 := ⟨_, rfl⟩
  rw [← hx, ← hy] at hB
  rw [← hg] at c1 k1
  rw [← hm] at c2 k2
  rw [← hx] at k1
  rw [← hy] at k2
  have i1 : (i : Int) < (Q.length : Int) := by omega
  have i2 : (j : Int) < (Q.length : Int) := by omega
  clear hg hm hx hy
  go_enter Try.func102, Try.ntmps102
  go_wp2_with fail
  go_quiet ((go_at_call 104; exact Calls.quiet_of (before_any g m i j x y _ (ItemAt.drewN k1 _) (ItemAt.drewN k2 _) B hB)))
  go_wp2
  go_ret
  exact ⟨rfl, _, rfl⟩

set_option maxRecDepth 100000 in
theorem QAt.swap {w : World} {qb cap : Nat} {Q : List (It × Nat)} (h : QAt w qb cap Q) {i j : Nat} (hi : i < Q.length) (hj : j < Q.length) (hne : i ≠ j) :
    QAt ((((w.setCell ⟨qb, i, none⟩ (.pointer (some ⟨Q[j].2, 0, none⟩))).setCell ⟨qb, j, none⟩ (.pointer (some ⟨Q[i].2, 0, none⟩))).setCell ⟨Q[j].2, 3, none⟩ (.int .i64 i)).setCell ⟨Q[i].2, 3, none⟩ (.int .i64 j)) qb cap (swapI (itZ, 0) Q i j) := by
  have hij := h.apart hi hj hne
  have hiq := h.ne i hi
  have hjq := h.ne j hj
  have e1 : Q.getD j (itZ, 0) = Q[j] := by simp [hj]
  have e2 : Q.getD i (itZ, 0) = Q[i] := by simp [hi]
  obtain ⟨rest, hr, hrow⟩ := h.row
  refine ⟨⟨rest, by rw [swapI_length]; exact hr, ?_⟩, ?_, ?_⟩
  · rw [heap_set_other _ (Ne.symm hiq), heap_set_other _ (Ne.symm hjq), heap_set (heap_set hrow _)]
    rw [List.setIfInBounds_toArray, List.setIfInBounds_toArray, List.set_append_left _ _ (by simpa using hi), List.set_append_left _ _ (by simpa using hj)]
    unfold swapI
    rw [List.map_set, List.map_set, e1, e2]
  · intro k hk
    rw [swapI_length] at hk
    have hg : (swapI (itZ, 0) Q i j)[k]'(by rw [swapI_length]; exact hk) = (swapI (itZ, 0) Q i j).getD k (itZ, 0) := by simp [swapI_length, hk]
    rw [hg, swapI_get (itZ, 0) Q i j k hi hj, e1, e2]
    by_cases h1 : k = j
    · subst h1
      rw [if_pos rfl]
      have := h.items i hi
      have h3 : ItemAt (((w.setCell ⟨qb, i, none⟩ (.pointer (some ⟨Q[k].2, 0, none⟩))).setCell ⟨qb, k, none⟩ (.pointer (some ⟨Q[i].2, 0, none⟩))).setCell ⟨Q[k].2, 3, none⟩ (.int .i64 i)) Q[i].2 Q[i].1 i := by
        unfold ItemAt
        rw [heap_set_other _ hij, heap_set_other _ hiq, heap_set_other _ hiq]
        exact this
      exact h3.move k
    · rw [if_neg h1]
      by_cases h2 : k = i
      · subst h2
        rw [if_pos rfl]
        have := h.items j hj
        have h3 : ItemAt ((w.setCell ⟨qb, k, none⟩ (.pointer (some ⟨Q[j].2, 0, none⟩))).setCell ⟨qb, j, none⟩ (.pointer (some ⟨Q[k].2, 0, none⟩))) Q[j].2 Q[j].1 j := by
          unfold ItemAt
          rw [heap_set_other _ hjq, heap_set_other _ hjq]
          exact this
        have h4 := h3.move k
        unfold ItemAt at h4 ⊢
        rw [heap_set_other _ (Ne.symm hij)]
        exact h4
      · rw [if_neg h2]
        have e3 : Q.getD k (itZ, 0) = Q[k] := by simp [hk]
        rw [e3]
        have h3 := h.items k hk
        unfold ItemAt at h3 ⊢
        rw [heap_set_other _ (h.apart hk hi h2), heap_set_other _ (h.apart hk hj h1), heap_set_other _ (h.ne k hk), heap_set_other _ (h.ne k hk)]
        exact h3
  · have := (swapI_perm (itZ, 0) Q i j hi hj).map (·.2)
    exact this.nodup_iff.2 h.nodup

set_option maxRecDepth 100000 in
/-- Four stores into the blocks of a queue. -/
theorem chg_swap {w : World} {qb i j g m : Nat} {S : List Nat} (hq : qb ∈ S) (hg : g ∈ S) (hm : m ∈ S) (v1 v2 v3 v4 : Value) :
    Chg S w ((((w.setCell ⟨qb, i, none⟩ v1).setCell ⟨qb, j, none⟩ v2).setCell ⟨m, 3, none⟩ v3).setCell ⟨g, 3, none⟩ v4) :=
  ((((Chg.refl S w).setCell (.inl hq) _).setCell (.inl hq) _).setCell (.inl hm) _).setCell (.inl hg) _

set_option maxRecDepth 100000 in
set_option maxHeartbeats 2000000 in
theorem swap_any (qb cap i j : Nat) (Q : List (It × Nat)) (w : World) (h : QAt w qb cap Q) (hi : i < Q.length) (hj : j < Q.length) (hne : i ≠ j) :
    Calls Try.prog 103 #[.slice (some ⟨qb, 0, none⟩) Q.length cap, .int .i64 i, .int .i64 j] w fun e w' => e = .returned (.tuple #[]) ∧ QAt w' qb cap (swapI (itZ, 0) Q i j) ∧ Chg (blksQ qb Q) w w' := by
  have HSW := Lib.hid (h.swap hi hj hne)
  have c1 := h.get i hi
  have c2 := h.get j hj
  have f1 := h.fr i
  have f2 := h.fr j
  have k1 := (h.items i hi).c3
  have k2 := (h.items j hj).c3
  have g1 := (h.items i hi).fr 3
  have g2 := (h.items j hj).fr 3
  have hij := h.apart hi hj hne
  have hiq := h.ne i hi
  have hjq := h.ne j hj
  have HM : Hid (Q[i].2 ∈ blksQ qb Q ∧ Q[j].2 ∈ blksQ qb Q) := Lib.hid ⟨by simp only [blksQ, List.mem_cons, List.mem_map]; exact .inr ⟨Q[i], List.getElem_mem hi, rfl⟩, by simp only [blksQ, List.mem_cons, List.mem_map]; exact .inr ⟨Q[j], List.getElem_mem hj, rfl⟩⟩
  obtain ⟨g, hg⟩ : ∃ g, g = Q[i].2 := ⟨_, rfl⟩
  obtain ⟨m, hm⟩ : ∃ m, m = Q[j].2 := ⟨_, rfl⟩
  rw [← hg] at c1 k1 g1 hij hiq HSW HM
  rw [← hm] at c2 k2 g2 hij hjq HSW HM
  have i1 : (i : Int) < (Q.length : Int) := by omega
  have i2 : (j : Int) < (Q.length : Int) := by omega
  have hne' : j ≠ i := Ne.symm hne
  have hqi : qb ≠ g := Ne.symm hiq
  have hqj : qb ≠ m := Ne.symm hjq
  have hji : m ≠ g := Ne.symm hij
  have HCH : Hid (Chg (blksQ qb Q) w ((((w.setCell ⟨qb, i, none⟩ (.pointer (some ⟨m, 0, none⟩))).setCell ⟨qb, j, none⟩ (.pointer (some ⟨g, 0, none⟩))).setCell ⟨m, 3, none⟩ (.int .i64 i)).setCell ⟨g, 3, none⟩ (.int .i64 j))) := Lib.hid (chg_swap (by simp [blksQ]) HM.out.1 HM.out.2 _ _ _ _)
  clear hg hm h
  go_enter Try.func103, Try.ntmps103
  go_wp2_with fail
  go_region
  go_wp2_with fail
  go_region
  go_wp2
  go_end0
  exact ⟨rfl, HSW.out.drewN 2, HCH.out.drewN 2⟩

end Go.Proofs.Ytgdnfempcjlipaa.Ti

namespace Go.Proofs.Ytgdnfempcjlipaa.Ti
open Go.RowKit

/-- The queue, as the library's heap sees it: a pointer to the field of its timers. -/
structure QH (w : World) (tb qb cap : Nat) (Q : List (It × Nat)) : Prop where
  cell : w.cell? ⟨tb, 1, none⟩ = some (.slice (some ⟨qb, 0, none⟩) Q.length cap)
  q : QAt w qb cap Q
  ne : tb ∉ blksQ qb Q
def qI (tb : Nat) : Value := .iface 119 (.pointer (some ⟨tb, 1, none⟩))
set_option maxRecDepth 100000 in
theorem run_loadQ (a : Addr) (v : Value) (w : World) (h : w.cell? a = some v) : (loadVar 111 a).run Try.prog w = .ok v w := by
  simp [loadVar, isAgg, run_underlying Try.underlying111, h]
set_option maxRecDepth 100000 in
theorem m_len (a : Addr) (v : Value) (w : World) (h : w.cell? a = some v) : (method 269 119 (.pointer (some a)) "Len").run Try.prog w = .ok (101, v) w :=
  run_method_val 119 111 "Len" 268 101 a v w (by kernel_rfl) Try.underlying119 (run_loadQ a v w h)
set_option maxRecDepth 100000 in
theorem m_less (a : Addr) (v : Value) (w : World) (h : w.cell? a = some v) : (method 269 119 (.pointer (some a)) "Less").run Try.prog w = .ok (102, v) w :=
  run_method_val 119 111 "Less" 268 102 a v w (by kernel_rfl) Try.underlying119 (run_loadQ a v w h)
set_option maxRecDepth 100000 in
theorem m_swap (a : Addr) (v : Value) (w : World) (h : w.cell? a = some v) : (method 269 119 (.pointer (some a)) "Swap").run Try.prog w = .ok (103, v) w :=
  run_method_val 119 111 "Swap" 268 103 a v w (by kernel_rfl) Try.underlying119 (run_loadQ a v w h)

set_option maxRecDepth 100000 in
theorem QH.drewN {w : World} {tb qb cap : Nat} {Q : List (It × Nat)} (h : QH w tb qb cap Q) (n : Nat) : QH (w.drewN n) tb qb cap Q := ⟨h.cell, h.q.drewN n, h.ne⟩
set_option maxRecDepth 100000 in
theorem blks_perm {qb : Nat} {Q R : List (It × Nat)} (h : R.Perm Q) (x : Nat) : x ∈ blksQ qb R ↔ x ∈ blksQ qb Q := by
  simp only [blksQ, List.mem_cons]
  rw [(h.map (·.2)).mem_iff]
set_option maxRecDepth 100000 in
theorem QH.to {w w' : World} {tb qb cap : Nat} {Q R : List (It × Nat)} (h : QH w tb qb cap Q) (hq : QAt w' qb cap R) (hp : R.Perm Q) (hc : Chg (blksQ qb Q) w w') : QH w' tb qb cap R :=
  ⟨by rw [hp.length_eq]; exact hc.cell h.cell h.ne, hq, fun hx => h.ne ((blks_perm hp tb).1 hx)⟩
def itsQ (Q : List (It × Nat)) : List It := Q.map (·.1)
set_option maxRecDepth 100000 in
theorem itsQ_get {Q : List (It × Nat)} {i : Nat} (h : i < Q.length) : (itsQ Q).getD i itZ = Q[i].1 := by simp [itsQ, h]
set_option maxRecDepth 100000 in
theorem itsQ_swap {Q : List (It × Nat)} {i j : Nat} (hi : i < Q.length) (hj : j < Q.length) : itsQ (swapI (itZ, 0) Q i j) = swapI itZ (itsQ Q) i j := swapI_map (fun x : It × Nat => x.1) (itZ, 0) Q i j hi hj

/-- What stands at a round's head of 'up'. -/
def UpR (w : World) (tb qb cap n : Nat) (Q : List (It × Nat)) (v : Value) (wr : World) : Prop :=
  ∃ (j : Nat) (R : List (It × Nat)), j < n ∧ v = .int .i64 j ∧ QH wr tb qb cap R ∧ R.Perm Q ∧ UpN (itsQ R) n j ∧ KeepN (itZ, 0) Q R n ∧ Chg (blksQ qb Q) w wr
/-- What is left behind: a heap of the same things. -/
def HeapPost (w : World) (tb qb cap n : Nat) (Q : List (It × Nat)) (w' : World) : Prop :=
  ∃ R, QH w' tb qb cap R ∧ R.Perm Q ∧ HeapN (itsQ R) n ∧ KeepN (itZ, 0) Q R n ∧ Chg (blksQ qb Q) w w'

set_option maxRecDepth 100000 in
set_option maxHeartbeats 2000000 in
theorem up_any (tb qb cap n j : Nat) (Q : List (It × Nat)) (w : World) (h : QH w tb qb cap Q) (hn : n ≤ Q.length) (hj : j < n) (hU : UpN (itsQ Q) n j) (hlen : Q.length ≤ 1000000000) :
    Calls Try.prog 75 #[qI tb, .int .i64 j] w fun e w' => e = .returned (.tuple #[]) ∧ HeapPost w tb qb cap n Q w' := by
  unfold qI
  have HN := Lib.hid hn
  go_enter Try.func75, Try.ntmps75
  go_wp2_with fail
  go_loopw [1] (UpR w tb qb cap n Q) (fun v _ => (intOf v).toNat)
  case atStart => exact ⟨j, Q, hj, rfl, h, List.Perm.refl _, hU, KeepN.refl _ _ _, Chg.refl _ _⟩
  case round =>
    clear h hU hj
    obtain ⟨j, R, hj, rfl, hq, hp, hU, hK, hC⟩ := hrel
    have hRl : R.length = Q.length := hp.length_eq
    have hR1 : n ≤ R.length := by omega
    have hR2 : R.length ≤ 1000000000 := by omega
    have HU := Lib.hid hU
    have HP := Lib.hid hp
    have HK := Lib.hid hK
    clear hRl hU hp hK
    by_cases h0 : j = 0
    · subst h0
      have e1 : ((0 : Int) - 1).tdiv 2 = 0 := by decide
      have e2 : ((-1 : Int)).tdiv 2 = 0 := by decide
      go_wp2
      go_end0
      exact ⟨rfl, R, hq, HP.out, up_end HU.out (.inl rfl), HK.out, hC⟩
    · obtain ⟨p, hpd⟩ : ∃ p, p = (j - 1) / 2 := ⟨_, rfl⟩
      have hpj : p < j := by omega
      have HPD := Lib.hid hpd
      have j1 : (1 : Int) ≤ (j : Int) := by omega
      have e1 : ((j : Int) - 1) / 2 = (p : Int) := by omega
      have e2 : ((p : Int) == (j : Int)) = false := by simp; omega
      have e3 : (p == j) = false := by simp; omega
      have hjR : j < R.length := by omega
      have hpR : p < R.length := by omega
      have m1 := m_less _ _ _ hq.cell
      clear hpd h0
      by_cases hlt : ltI R[j].1 R[p].1 = true
      · have HB : Hid (true = ltI R[j].1 R[p].1) := Lib.hid hlt.symm
        clear hlt
        go_wp2_with fail
        refine (less_any qb cap j p R _ hq.q hjR hpR true HB).mono ?_
        rintro e w1 ⟨rfl, n1, rfl⟩
        have hq1 := hq.drewN n1
        have m2 := m_swap _ _ _ hq1.cell
        clear m1
        go_wp2_with fail
        refine (swap_any qb cap p j R _ hq1.q hpR hjR (by omega)).mono ?_
        rintro e w2 ⟨rfl, hq2, hc2⟩
        have hperm := swapI_perm (itZ, 0) R p j hpR hjR
        have hq3 := hq1.to hq2 hperm hc2
        have hC3 : Chg (blksQ qb Q) w w2 := (hC.drewN n1).trans (hc2.mono fun x hx => (blks_perm HP.out x).1 hx)
        have hup : UpN (itsQ (swapI (itZ, 0) R p j)) n p := by
          rw [itsQ_swap hpR hjR, HPD.out]
          have hlI : n ≤ (itsQ R).length := by simpa [itsQ] using hR1
          refine up_step HU.out hlI hj (by omega) ?_
          rw [← HPD.out, itsQ_get hjR, itsQ_get hpR]
          exact HB.out.symm
        have hKK : KeepN (itZ, 0) Q (swapI (itZ, 0) R p j) n := HK.out.swap (by omega) hj hpR hjR
        have HUP := Lib.hid hup
        have HKK := Lib.hid hKK
        clear m2 hq hq1 hq2 hc2 hC hup hKK e1 e2 e3
        go_wp2
        go_roundw
        case rel => exact ⟨p, swapI (itZ, 0) R p j, by omega, rfl, hq3, hperm.trans HP.out, HUP.out, HKK.out, hC3⟩
        case measure => simp [intOf] <;> omega
      · have hlt' : ltI R[j].1 R[p].1 = false := by simpa using hlt
        have HB : Hid (false = ltI R[j].1 R[p].1) := Lib.hid hlt'.symm
        clear hlt hlt'
        go_wp2_with fail
        refine (less_any qb cap j p R _ hq.q hjR hpR false HB).mono ?_
        rintro e w1 ⟨rfl, n1, rfl⟩
        go_wp2
        go_end0
        refine ⟨rfl, R, hq.drewN n1, HP.out, up_end HU.out (.inr ?_), HK.out, hC.drewN n1⟩
        rw [← HPD.out, itsQ_get hjR, itsQ_get hpR]
        exact HB.out.symm

end Go.Proofs.Ytgdnfempcjlipaa.Ti

namespace Go.Proofs.Ytgdnfempcjlipaa.Ti
open Go.RowKit

/-- What holds at a round's head of 'down'. -/
structure DownAt (Q R : List (It × Nat)) (n i0 i : Nat) : Prop where
  perm : R.Perm Q
  weak : DownW (itsQ R) n i
  same : i = i0 → R = Q
  full : i ≠ i0 → DownI (itsQ R) n i
  le : i0 ≤ i
  keep : KeepN (itZ, 0) Q R n
def DownR (w : World) (tb qb cap n i0 : Nat) (Q : List (It × Nat)) (v : Value) (wr : World) : Prop :=
  ∃ (i : Nat) (R : List (It × Nat)), i < n ∧ v = .int .i64 i ∧ QH wr tb qb cap R ∧ DownAt Q R n i0 i ∧ Chg (blksQ qb Q) w wr
/-- What 'down' leaves: a heap; or nothing was moved, and it may stand too low. -/
def DownPost (w : World) (tb qb cap n i0 : Nat) (Q : List (It × Nat)) (e : Ending) (w' : World) : Prop :=
  (e = .returned (.bool true) ∧ HeapPost w tb qb cap n Q w') ∨ (e = .returned (.bool false) ∧ QH w' tb qb cap Q ∧ UpN (itsQ Q) n i0 ∧ Chg (blksQ qb Q) w w')
set_option maxRecDepth 100000 in
theorem down_fin {w w' : World} {tb qb cap n i0 i : Nat} {Q R : List (It × Nat)} (hq : QH w' tb qb cap R) (hd : DownAt Q R n i0 i) (hC : Chg (blksQ qb Q) w w') (hch : ∀ c, 0 < c → c < n → (c - 1) / 2 = i → leI ((itsQ R).getD i itZ) ((itsQ R).getD c itZ)) (B : Bool) (hB : Hid (B = decide (i0 < i))) :
    DownPost w tb qb cap n i0 Q (.returned (.bool B)) w' := by
  by_cases e : i = i0
  · right
    have hR := hd.same e
    have hw := hd.weak
    subst hR
    subst e
    refine ⟨?_, hq, downW_stay hw hch, hC⟩
    rw [hB.out]; simp
  · left
    refine ⟨?_, R, hq, hd.perm, down_end (hd.full e) hch, hd.keep, hC⟩
    rw [hB.out]
    have := hd.le
    rw [decide_eq_true (by omega)]
set_option maxRecDepth 100000 in
theorem down_next {Q R : List (It × Nat)} {n i0 i j : Nat} (hd : DownAt Q R n i0 i) (hn : n ≤ R.length) (hj : j < n) (hj0 : 0 < j) (hp : (j - 1) / 2 = i) (hlt : ltI ((itsQ R).getD j itZ) ((itsQ R).getD i itZ) = true) (hmin : ∀ c, 0 < c → c < n → (c - 1) / 2 = i → leI ((itsQ R).getD j itZ) ((itsQ R).getD c itZ)) :
    DownAt Q (swapI (itZ, 0) R i j) n i0 j := by
  have hi : i < R.length := by omega
  have hjl : j < R.length := by omega
  have hlI : n ≤ (itsQ R).length := by simpa [itsQ] using hn
  have hs := downW_step hd.weak hlI hj hj0 hp hlt hmin
  rw [← itsQ_swap hi hjl] at hs
  have hle := hd.le
  exact ⟨(swapI_perm (itZ, 0) R i j hi hjl).trans hd.perm, ⟨fun c h0 hc h1 _ => hs.1 c h0 hc h1, hs.2⟩, fun e => by omega, fun _ => hs, by omega, hd.keep.swap (by omega) hj hi hjl⟩

set_option maxRecDepth 100000 in
set_option maxHeartbeats 4000000 in
theorem down_any (tb qb cap n i0 : Nat) (Q : List (It × Nat)) (w : World) (h : QH w tb qb cap Q) (hn : n ≤ Q.length) (hi : i0 < n) (hD : DownW (itsQ Q) n i0) (hlen : Q.length ≤ 1000000000) :
    Calls Try.prog 74 #[qI tb, .int .i64 i0, .int .i64 n] w (DownPost w tb qb cap n i0 Q) := by
  unfold qI
  have HD0 : Hid (DownAt Q Q n i0 i0) := Lib.hid ⟨List.Perm.refl _, hD, fun _ => rfl, fun h => absurd rfl h, Nat.le_refl _, KeepN.refl _ _ _⟩
  clear hD
  go_enter Try.func74, Try.ntmps74
  go_wp2_with fail
  go_loopw [7] (DownR w tb qb cap n i0 Q) (fun v _ => n - (intOf v).toNat)
  case atStart => exact ⟨i0, Q, hi, rfl, h, HD0.out, Chg.refl _ _⟩
  case round =>
    clear h HD0 hi
    obtain ⟨i, R, hi, rfl, hq, hd, hC⟩ := hrel
    have hR1 : n ≤ R.length := by rw [hd.perm.length_eq]; exact hn
    have hR2 : R.length ≤ 1000000000 := by rw [hd.perm.length_eq]; exact hlen
    have HD := Lib.hid hd
    have iI : (0 : Int) ≤ (i : Int) := by omega
    have iN : (i : Int) < (n : Int) := by omega
    have nI : (n : Int) ≤ 1000000000 := by omega
    obtain ⟨B, hB⟩ : ∃ B, B = decide (i0 < i) := ⟨_, rfl⟩
    have HB := Lib.hid hB
    have hBI : decide ((i0 : Int) < (i : Int)) = B := by rw [hB, Bool.eq_iff_iff]; simp
    have hBN : decide (i0 < i) = B := hB.symm
    have HBI := Lib.hid (And.intro hBI hBN)
    clear hd hB hBI hBN
    have hiR : i < R.length := by omega
    by_cases hj1 : 2 * i + 1 < n
    · have d1 : decide ((n : Int) ≤ 2 * (i : Int) + 1) = false := by simp; omega
      have d2 : decide (2 * (i : Int) + 1 < 0) = false := by simp; omega
      have hjR : 2 * i + 1 < R.length := by omega
      have m1 := m_less _ _ _ hq.cell
      obtain ⟨j1, hj1d⟩ : ∃ j1, j1 = 2 * i + 1 := ⟨_, rfl⟩
      have HJ1 := Lib.hid hj1d
      have hj1I : 2 * (i : Int) + 1 = (j1 : Int) := by omega
      rw [← hj1d] at hj1 hjR
      rw [hj1I] at d1 d2
      clear hj1d
      by_cases hj2 : j1 + 1 < n
      · have hj2R : j1 + 1 < R.length := by omega
        have hj2I : (j1 : Int) + 1 < (n : Int) := by omega
        obtain ⟨j2, hj2d⟩ : ∃ j2, j2 = j1 + 1 := ⟨_, rfl⟩
        have HJ2 := Lib.hid hj2d
        have hj2e : (j1 : Int) + 1 = (j2 : Int) := by omega
        rw [← hj2d] at hj2 hj2R
        rw [hj2e] at hj2I
        clear hj2d
        by_cases hl : ltI R[j2].1 R[j1].1 = true
        · have HL : Hid (true = ltI R[j2].1 R[j1].1) := Lib.hid hl.symm
          have HMIN : Hid (∀ c, 0 < c → c < n → (c - 1) / 2 = i → leI ((itsQ R).getD j2 itZ) ((itsQ R).getD c itZ)) := Lib.hid (by
            intro c h0 hc hp
            have := HJ1.out
            have := HJ2.out
            by_cases e : c = j2
            · rw [e]; exact leI_refl _
            · have e2 : c = j1 := by omega
              rw [e2, itsQ_get hj2R, itsQ_get hjR]
              exact leI_of_lt hl)
          clear hl
          go_wp2_with fail
          refine (less_any qb cap j2 j1 R _ hq.q hj2R hjR true HL).mono ?_
          rintro e w1 ⟨rfl, n1, rfl⟩
          have hq1 := hq.drewN n1
          have hC1 := hC.drewN n1
          have m2 := m_less _ _ _ hq1.cell
          clear m1 hq hC d1 d2
          by_cases hli : ltI R[j2].1 R[i].1 = true
          · have HLI : Hid (true = ltI R[j2].1 R[i].1) := Lib.hid hli.symm
            clear hli
            go_wp2_with fail
            refine (less_any qb cap j2 i R _ hq1.q hj2R hiR true HLI).mono ?_
            rintro e w2 ⟨rfl, n2, rfl⟩
            have hq2 := (drew2 wr n1 n2) ▸ hq1.drewN n2
            have hC2 := (drew2 wr n1 n2) ▸ hC1.drewN n2
            have m3 := m_swap _ _ _ hq2.cell
            clear m2 hq1 hC1
            go_wp2_with fail
            refine (swap_any qb cap i j2 R _ hq2.q hiR hj2R (by have := HJ1.out; have := HJ2.out; omega)).mono ?_
            rintro e w3 ⟨rfl, hq3, hc3⟩
            have hperm := swapI_perm (itZ, 0) R i j2 hiR hj2R
            have hq4 := hq2.to hq3 hperm hc3
            have hC4 : Chg (blksQ qb Q) w w3 := hC2.trans (hc3.mono fun x hx => (blks_perm HD.out.perm x).1 hx)
            have HD4 : Hid (DownAt Q (swapI (itZ, 0) R i j2) n i0 j2) := Lib.hid (down_next HD.out hR1 (by omega) (by have := HJ1.out; have := HJ2.out; omega) (by have := HJ1.out; have := HJ2.out; omega) (by rw [itsQ_get hj2R, itsQ_get hiR]; exact HLI.out.symm) HMIN.out)
            clear m3 hq2 hC2 hq3 hc3
            go_wp2
            go_roundw
            case rel => exact ⟨j2, _, by omega, rfl, hq4, HD4.out, hC4⟩
            case measure => have := HJ1.out; have := HJ2.out; simp [intOf] <;> omega
          · have hli' : ltI R[j2].1 R[i].1 = false := by simpa using hli
            have HLI : Hid (false = ltI R[j2].1 R[i].1) := Lib.hid hli'.symm
            have HCH : Hid (∀ c, 0 < c → c < n → (c - 1) / 2 = i → leI ((itsQ R).getD i itZ) ((itsQ R).getD c itZ)) := Lib.hid (fun c h0 hc hp => leI_trans (by rw [itsQ_get hj2R, itsQ_get hiR]; exact hli') (HMIN.out c h0 hc hp))
            clear hli hli'
            go_wp2_with fail
            refine (less_any qb cap j2 i R _ hq1.q hj2R hiR false HLI).mono ?_
            rintro e w2 ⟨rfl, n2, rfl⟩
            have hq2 := (drew2 wr n1 n2) ▸ hq1.drewN n2
            have hC2 := (drew2 wr n1 n2) ▸ hC1.drewN n2
            obtain ⟨b1, b2⟩ := HBI.out
            clear m2 hq1 hC1
            go_wp2
            go_ret
            exact down_fin hq2 HD.out hC2 HCH.out B HB
        · have hl' : ltI R[j2].1 R[j1].1 = false := by simpa using hl
          have HL : Hid (false = ltI R[j2].1 R[j1].1) := Lib.hid hl'.symm
          have HMIN : Hid (∀ c, 0 < c → c < n → (c - 1) / 2 = i → leI ((itsQ R).getD j1 itZ) ((itsQ R).getD c itZ)) := Lib.hid (by
            intro c h0 hc hp
            have := HJ1.out
            have := HJ2.out
            by_cases e : c = j1
            · rw [e]; exact leI_refl _
            · have e2 : c = j2 := by omega
              rw [e2, itsQ_get hj2R, itsQ_get hjR]
              exact hl')
          clear hl hl'
          go_wp2_with fail
          refine (less_any qb cap j2 j1 R _ hq.q hj2R hjR false HL).mono ?_
          rintro e w1 ⟨rfl, n1, rfl⟩
          have hq1 := hq.drewN n1
          have hC1 := hC.drewN n1
          have m2 := m_less _ _ _ hq1.cell
          clear m1 hq hC d1 d2
          by_cases hli : ltI R[j1].1 R[i].1 = true
          · have HLI : Hid (true = ltI R[j1].1 R[i].1) := Lib.hid hli.symm
            clear hli
            go_wp2_with fail
            refine (less_any qb cap j1 i R _ hq1.q hjR hiR true HLI).mono ?_
            rintro e w2 ⟨rfl, n2, rfl⟩
            have hq2 := (drew2 wr n1 n2) ▸ hq1.drewN n2
            have hC2 := (drew2 wr n1 n2) ▸ hC1.drewN n2
            have m3 := m_swap _ _ _ hq2.cell
            clear m2 hq1 hC1
            go_wp2_with fail
            refine (swap_any qb cap i j1 R _ hq2.q hiR hjR (by have := HJ1.out; omega)).mono ?_
            rintro e w3 ⟨rfl, hq3, hc3⟩
            have hperm := swapI_perm (itZ, 0) R i j1 hiR hjR
            have hq4 := hq2.to hq3 hperm hc3
            have hC4 : Chg (blksQ qb Q) w w3 := hC2.trans (hc3.mono fun x hx => (blks_perm HD.out.perm x).1 hx)
            have HD4 : Hid (DownAt Q (swapI (itZ, 0) R i j1) n i0 j1) := Lib.hid (down_next HD.out hR1 (by omega) (by have := HJ1.out; omega) (by have := HJ1.out; omega) (by rw [itsQ_get hjR, itsQ_get hiR]; exact HLI.out.symm) HMIN.out)
            clear m3 hq2 hC2 hq3 hc3
            go_wp2
            go_roundw
            case rel => exact ⟨j1, _, by omega, rfl, hq4, HD4.out, hC4⟩
            case measure => have := HJ1.out; simp [intOf] <;> omega
          · have hli' : ltI R[j1].1 R[i].1 = false := by simpa using hli
            have HLI : Hid (false = ltI R[j1].1 R[i].1) := Lib.hid hli'.symm
            have HCH : Hid (∀ c, 0 < c → c < n → (c - 1) / 2 = i → leI ((itsQ R).getD i itZ) ((itsQ R).getD c itZ)) := Lib.hid (fun c h0 hc hp => leI_trans (by rw [itsQ_get hjR, itsQ_get hiR]; exact hli') (HMIN.out c h0 hc hp))
            clear hli hli'
            go_wp2_with fail
            refine (less_any qb cap j1 i R _ hq1.q hjR hiR false HLI).mono ?_
            rintro e w2 ⟨rfl, n2, rfl⟩
            have hq2 := (drew2 wr n1 n2) ▸ hq1.drewN n2
            have hC2 := (drew2 wr n1 n2) ▸ hC1.drewN n2
            obtain ⟨b1, b2⟩ := HBI.out
            clear m2 hq1 hC1
            go_wp2
            go_ret
            exact down_fin hq2 HD.out hC2 HCH.out B HB
      · have d3 : decide ((j1 : Int) + 1 < (n : Int)) = false := by simp; omega
        have HMIN : Hid (∀ c, 0 < c → c < n → (c - 1) / 2 = i → leI ((itsQ R).getD j1 itZ) ((itsQ R).getD c itZ)) := Lib.hid (by
          intro c h0 hc hp
          have := HJ1.out
          have e : c = j1 := by omega
          rw [e]; exact leI_refl _)
        have hq1 := hq
        have hC1 := hC
        have m2 := m1
        clear m1 hq hC
        by_cases hli : ltI R[j1].1 R[i].1 = true
        · have HLI : Hid (true = ltI R[j1].1 R[i].1) := Lib.hid hli.symm
          clear hli
          go_wp2_with fail
          refine (less_any qb cap j1 i R _ hq1.q hjR hiR true HLI).mono ?_
          rintro e w2 ⟨rfl, n2, rfl⟩
          have hq2 := hq1.drewN n2
          have hC2 := hC1.drewN n2
          have m3 := m_swap _ _ _ hq2.cell
          clear m2 hq1 hC1
          go_wp2_with fail
          refine (swap_any qb cap i j1 R _ hq2.q hiR hjR (by have := HJ1.out; omega)).mono ?_
          rintro e w3 ⟨rfl, hq3, hc3⟩
          have hperm := swapI_perm (itZ, 0) R i j1 hiR hjR
          have hq4 := hq2.to hq3 hperm hc3
          have hC4 : Chg (blksQ qb Q) w w3 := hC2.trans (hc3.mono fun x hx => (blks_perm HD.out.perm x).1 hx)
          have HD4 : Hid (DownAt Q (swapI (itZ, 0) R i j1) n i0 j1) := Lib.hid (down_next HD.out hR1 (by omega) (by have := HJ1.out; omega) (by have := HJ1.out; omega) (by rw [itsQ_get hjR, itsQ_get hiR]; exact HLI.out.symm) HMIN.out)
          clear m3 hq2 hC2 hq3 hc3
          go_wp2
          go_roundw
          case rel => exact ⟨j1, _, by omega, rfl, hq4, HD4.out, hC4⟩
          case measure => have := HJ1.out; simp [intOf] <;> omega
        · have hli' : ltI R[j1].1 R[i].1 = false := by simpa using hli
          have HLI : Hid (false = ltI R[j1].1 R[i].1) := Lib.hid hli'.symm
          have HCH : Hid (∀ c, 0 < c → c < n → (c - 1) / 2 = i → leI ((itsQ R).getD i itZ) ((itsQ R).getD c itZ)) := Lib.hid (fun c h0 hc hp => leI_trans (by rw [itsQ_get hjR, itsQ_get hiR]; exact hli') (HMIN.out c h0 hc hp))
          clear hli hli'
          go_wp2_with fail
          refine (less_any qb cap j1 i R _ hq1.q hjR hiR false HLI).mono ?_
          rintro e w2 ⟨rfl, n2, rfl⟩
          have hq2 := hq1.drewN n2
          have hC2 := hC1.drewN n2
          obtain ⟨b1, b2⟩ := HBI.out
          clear m2 hq1 hC1
          go_wp2
          go_ret
          exact down_fin hq2 HD.out hC2 HCH.out B HB
    · have d1 : (n : Int) ≤ 2 * (i : Int) + 1 := by omega
      have hch : ∀ c, 0 < c → c < n → (c - 1) / 2 = i → leI ((itsQ R).getD i itZ) ((itsQ R).getD c itZ) := fun c h0 hc hp => by omega
      have HCH := Lib.hid hch
      obtain ⟨b1, b2⟩ := HBI.out
      clear hch
      go_wp2
      go_ret
      exact down_fin hq HD.out hC HCH.out B HB

end Go.Proofs.Ytgdnfempcjlipaa.Ti

namespace Go.Proofs.Ytgdnfempcjlipaa.Ti
open Go.RowKit

set_option maxRecDepth 100000 in
/-- One pointer is appended to a row of one's own: in place, or in a new block. -/
theorem run_push_own {P : Program} (w : World) (t ty e : TypeId) (i : TypeInfo) (z : Value) (bytes : Nat) (ht : P.underlying t = some (.slice e)) (hi : P.info? e = some i) (hz : i.zero = some z)
    (hsize : i.size = 1) (hby : i.bytes = bytes) (hzs : z.cells.size = 1)
    (v : Value) (n : Nat) (xs : List Value) (hown : w.ownsRow 0 e 1 v n xs)
    (a : Addr) (c : Nat) (u : Value) (hnews : w.cell? (a.add 0) = some u) (h1 : u.oneCell' = true)
    (h63 : n + 1 ≤ maxLen) (hbytes : (n + 1) * bytes ≤ 140737488355328) :
    ∃ v' w' g cap, (Builtin.append_ #[t, t] ty #[v, .slice (some a) 1 c]).run P w = .ok v' w' ∧ w'.ownsRow 0 e 1 v' (n + 1) (xs ++ [u]) ∧ w.grownBy w' v.ownBlock ∧
      v' = .slice (some ⟨g, 0, none⟩) (n + 1) cap ∧ (v.ownBlock = some g ∨ w.heap.size ≤ g) := by
  have hn1 : ∀ j x, [u][j]? = some x → w.cell? (a.add j) = some x := by
    intro j x hj
    cases j with
    | zero => simp at hj; rw [← hj]; exact hnews
    | succ j => simp at hj
  have hn2 : ∀ x ∈ [u], x.oneCell' = true := by intro x hx; simp at hx; rw [hx]; exact h1
  obtain ⟨v', w', hr, h2, h3, h4⟩ := run_append_own (P := P) w 0 t ty e i z 1 bytes ht hi hz hsize hby hzs (by omega) v n xs hown a 1 c [u] (by simp) hn1 hn2 h63 hbytes (by omega)
  have hwhere : ∃ g cap, v' = .slice (some ⟨g, 0, none⟩) (n + 1) cap ∧ (v.ownBlock = some g ∨ w.heap.size ≤ g) := by
    rcases hown.2 with ⟨hv, hn⟩ | ⟨g, cap, cur, hv, _, hg, hnc, hcm, hcs, htake⟩
    · have hown2 : w.ownsRow w.heap.size e 1 v n xs := ⟨hown.1, .inl ⟨hv, hn⟩⟩
      obtain ⟨v2, w2, hr2, k2, k3, k4⟩ := run_append_own (P := P) w w.heap.size t ty e i z 1 bytes ht hi hz hsize hby hzs (by omega) v n xs hown2 a 1 c [u] (by simp) hn1 hn2 h63 hbytes (by omega)
      rw [hr] at hr2
      injection hr2 with e1 e2
      subst e1
      rcases k2.2 with ⟨_, hh⟩ | ⟨g, cap, cur, hv', hb, _⟩
      · omega
      · exact ⟨g, cap, hv', .inr hb⟩
    · subst hv
      by_cases hroom : n + 1 ≤ cap
      · have hr2 := run_append_room (P := P) w t ty e i ht hi g n cap cur hg a 1 c [u] (by simp [hsize]) hn1 hn2 hroom (by rw [hsize, hcs]; simp; omega)
        rw [hr] at hr2
        injection hr2 with e1 e2
        exact ⟨g, cap, e1, .inl rfl⟩
      · have holds : ∀ j u, xs[j]? = some u → w.cell? ((⟨g, 0, none⟩ : Addr).add j) = some u := hown.cells (g := g) rfl
        have hsm : n + 1 ≤ 9223372036854775807 := by simp only [maxLen] at h63; omega
        have hr2 := run_append_grow (P := P) w t ty e i z ht hi hz ⟨g, 0, none⟩ n cap xs (by rw [hsize]; exact hown.1) holds a 1 c [u] (by simp [hsize]) hn1 (by omega) (by omega) (by rw [hby]; exact growslice_fits (by omega) hbytes)
        rw [hr] at hr2
        injection hr2 with e1 e2
        exact ⟨_, _, e1, .inr (Nat.le_refl _)⟩
  obtain ⟨g, cap, e1, e2⟩ := hwhere
  exact ⟨v', w', g, cap, hr, h2, h3, e1, e2⟩

set_option maxRecDepth 100000 in
set_option maxHeartbeats 2000000 in
theorem fix_any (tb qb cap i n : Nat) (Q : List (It × Nat)) (w : World) (h : QH w tb qb cap Q) (hn : Hid (n = Q.length)) (hi : i < n) (hD : DownW (itsQ Q) n i) (hlen : n ≤ 1000000000) :
    Calls Try.prog 58 #[qI tb, .int .i64 i] w fun e w' => e = .returned (.tuple #[]) ∧ HeapPost w tb qb cap n Q w' := by
  have HD := Lib.hid hD
  have hcell := h.cell
  rw [← hn.out] at hcell
  have m1 := m_len _ _ _ hcell
  clear hD
  go_enter Try.func58, Try.ntmps58
  unfold qI
  go_wp2_with fail
  refine (qlen_any _ _ _ _).mono ?_
  rintro e w1 ⟨rfl, rfl⟩
  clear m1
  go_wp2_with fail
  refine (down_any tb qb cap n i Q _ h (by have := hn.out; omega) hi HD.out (by have := hn.out; omega)).mono ?_
  rintro e w2 (⟨rfl, hp⟩ | ⟨rfl, hq, hU, hc⟩)
  · have HP := Lib.hid hp
    clear hp
    go_wp2
    go_end0
    exact ⟨rfl, HP.out⟩
  · have HU := Lib.hid hU
    clear hU
    go_wp2_with fail
    refine (up_any tb qb cap n i Q _ hq (by have := hn.out; omega) hi HU.out (by have := hn.out; omega)).mono ?_
    rintro e w3 ⟨rfl, R, r1, r2, r3, r4, r5⟩
    have HP : Hid (HeapPost w tb qb cap n Q w3) := Lib.hid ⟨R, r1, r2, r3, r4, hc.trans r5⟩
    clear r1 r2 r3 r4 r5
    go_wp2
    go_end0
    exact ⟨rfl, HP.out⟩

end Go.Proofs.Ytgdnfempcjlipaa.Ti

namespace Go.Proofs.Ytgdnfempcjlipaa.Ti
open Go.RowKit

set_option maxRecDepth 100000 in
theorem m_push (a : Addr) (w : World) : (method 269 119 (.pointer (some a)) "Push").run Try.prog w = .ok (107, .pointer (some a)) w := by kernel_rfl
set_option maxRecDepth 100000 in
theorem m_pop (a : Addr) (w : World) : (method 269 119 (.pointer (some a)) "Pop").run Try.prog w = .ok (106, .pointer (some a)) w := by kernel_rfl

/-- The head of timers: its map, its queue, how many were put. -/
def HeadAt (w : World) (tb : Nat) (mv qv : Value) (p : Nat) : Prop := w.heap[tb]? = some (.cells #[mv, qv, .int .u64 p] 113 (0, 0))
set_option maxRecDepth 100000 in
theorem HeadAt.c0 {w : World} {tb p : Nat} {mv qv : Value} (h : HeadAt w tb mv qv p) : w.cell? ⟨tb, 0, none⟩ = some mv := (cell_of h).trans rfl
set_option maxRecDepth 100000 in
theorem HeadAt.c1 {w : World} {tb p : Nat} {mv qv : Value} (h : HeadAt w tb mv qv p) : w.cell? ⟨tb, 1, none⟩ = some qv := (cell_of h).trans rfl
set_option maxRecDepth 100000 in
theorem HeadAt.c2 {w : World} {tb p : Nat} {mv qv : Value} (h : HeadAt w tb mv qv p) : w.cell? ⟨tb, 2, none⟩ = some (.int .u64 p) := (cell_of h).trans rfl
set_option maxRecDepth 100000 in
theorem HeadAt.fr {w : World} {tb p : Nat} {mv qv : Value} (h : HeadAt w tb mv qv p) (i : Nat) : w.frozen? ⟨tb, i, none⟩ = false := free_of h
set_option maxRecDepth 100000 in
theorem HeadAt.lt {w : World} {tb p : Nat} {mv qv : Value} (h : HeadAt w tb mv qv p) : tb < w.heap.size := lt_of_block h
set_option maxRecDepth 100000 in
theorem HeadAt.chg {w w' : World} {S : List Nat} {tb p : Nat} {mv qv : Value} (h : HeadAt w tb mv qv p) (hc : Chg S w w') (hg : tb ∉ S) : HeadAt w' tb mv qv p := hc.keep h hg
set_option maxRecDepth 100000 in
theorem HeadAt.set1 {w : World} {tb p : Nat} {mv qv : Value} (h : HeadAt w tb mv qv p) (v : Value) : HeadAt (w.setCell ⟨tb, 1, none⟩ v) tb mv v p := by
  unfold HeadAt; rw [heap_set h]; rfl
set_option maxRecDepth 100000 in
theorem HeadAt.set0 {w : World} {tb p : Nat} {mv qv : Value} (h : HeadAt w tb mv qv p) (v : Value) : HeadAt (w.setCell ⟨tb, 0, none⟩ v) tb v qv p := by
  unfold HeadAt; rw [heap_set h]; rfl
set_option maxRecDepth 100000 in
theorem HeadAt.set2 {w : World} {tb p : Nat} {mv qv : Value} (h : HeadAt w tb mv qv p) (q : Nat) : HeadAt (w.setCell ⟨tb, 2, none⟩ (.int .u64 q)) tb mv qv q := by
  unfold HeadAt; rw [heap_set h]; rfl

set_option maxRecDepth 100000 in
theorem QAt.pop {w : World} {tb qb cap n m : Nat} {Q : List (It × Nat)} (h : QAt w qb cap Q) (hn : n = Q.length) (hm : n = m + 1) (hne : tb ∉ blksQ qb Q) (v : Value) : QAt ((w.setCell ⟨qb, m, none⟩ (.pointer none)).setCell ⟨tb, 1, none⟩ v) qb cap (Q.take m) := by
  have hqt : qb ≠ tb := fun e => hne (by simp [blksQ, e])
  obtain ⟨rest, hr, hrow⟩ := h.row
  refine ⟨⟨.pointer none :: rest, by simp; omega, ?_⟩, ?_, ?_⟩
  · rw [heap_set_other _ hqt, heap_set hrow]
    have e1 : Q.map (fun x => Value.pointer (some ⟨x.2, 0, none⟩)) ++ rest = (Q.take m).map (fun x => Value.pointer (some ⟨x.2, 0, none⟩)) ++ (.pointer (some ⟨(Q[m]'(by omega)).2, 0, none⟩) :: rest) := by
      have : Q = Q.take m ++ [Q[m]'(by omega)] := by rw [List.take_append_getElem (by omega)]; rw [List.take_of_length_le (by omega)]
      conv => lhs; rw [this]
      rw [List.map_append, List.append_assoc]
      rfl
    rw [List.setIfInBounds_toArray, e1, List.set_append_right _ _ (by simp; omega)]
    have e2 : m - ((Q.take m).map fun x => Value.pointer (some ⟨x.2, 0, none⟩)).length = 0 := by simp; omega
    rw [e2]
    rfl
  · intro i hi
    have hi' : i < m := by simp at hi; omega
    rw [List.getElem_take]
    have h0 := h.items i (by omega)
    have n1 := h.ne i (by omega)
    have n2 : (Q[i]'(by omega)).2 ≠ tb := fun e => hne (by simp only [blksQ, List.mem_cons, List.mem_map]; exact .inr ⟨Q[i]'(by omega), List.getElem_mem _, e⟩)
    unfold ItemAt at h0 ⊢
    rw [heap_set_other _ n2, heap_set_other _ n1]
    exact h0
  · rw [List.map_take]
    exact h.nodup.sublist (List.take_sublist _ _)

set_option maxRecDepth 100000 in
set_option maxHeartbeats 2000000 in
theorem pop_any (tb qb cap n m p : Nat) (mv : Value) (Q : List (It × Nat)) (w : World) (h : QAt w qb cap Q) (hne : tb ∉ blksQ qb Q) (hh : HeadAt w tb mv (.slice (some ⟨qb, 0, none⟩) n cap) p) (hn : Hid (n = Q.length)) (hm : n = m + 1) (hcap : n ≤ cap) (hlen : n ≤ 1000000000) :
    Calls Try.prog 106 #[.pointer (some ⟨tb, 1, none⟩)] w fun e w' => (∃ v, e = .returned v) ∧ HeadAt w' tb mv (.slice (some ⟨qb, 0, none⟩) m cap) p ∧ QAt w' qb cap (Q.take m) ∧ Chg (tb :: blksQ qb Q) w w' := by
  have HP := Lib.hid (h.pop hn.out hm hne (.slice (some ⟨qb, 0, none⟩) m cap))
  have hqt : qb ≠ tb := fun e => hne (by simp [blksQ, e])
  have hqt2 : tb ≠ qb := fun e => hqt e.symm
  have HH : Hid (HeadAt ((w.setCell ⟨qb, m, none⟩ (.pointer none)).setCell ⟨tb, 1, none⟩ (.slice (some ⟨qb, 0, none⟩) m cap)) tb mv (.slice (some ⟨qb, 0, none⟩) m cap) p) := Lib.hid (HeadAt.set1 (by unfold HeadAt; rw [heap_set_other _ hqt2]; exact hh) _)
  have HC : Hid (Chg (tb :: blksQ qb Q) w ((w.setCell ⟨qb, m, none⟩ (.pointer none)).setCell ⟨tb, 1, none⟩ (.slice (some ⟨qb, 0, none⟩) m cap))) := Lib.hid (((Chg.refl _ w).setCell (.inl (by simp [blksQ])) _).setCell (.inl (by simp)) _)
  have c1 := hh.c1
  have f1 := hh.fr 1
  have hmQ : m < Q.length := by have := hn.out; omega
  have c2 := h.get m hmQ
  have f2 := h.fr m
  obtain ⟨g, hg⟩ : ∃ g, g = Q[m].2 := ⟨_, rfl⟩
  rw [← hg] at c2
  have e1 : (n : Int) - 1 = (m : Int) := by omega
  have i1 : (m : Int) < (n : Int) := by omega
  have i2 : (m : Int) ≤ (cap : Int) := by omega
  have i3 : m < n := by omega
  have i4 : m ≤ cap := by omega
  clear hg h hh hm hne hmQ
  go_enter Try.func106, Try.ntmps106
  go_wp2
  go_ret
  exact ⟨⟨_, rfl⟩, HH.out, HP.out, HC.out⟩

/-- A queue's row: nil, or a row of its own; its blocks lie in F. -/
def QS (w : World) (a : Option Addr) (n c : Nat) (Q : List (It × Nat)) (F : List Nat) : Prop :=
  n = Q.length ∧ n ≤ c ∧ ((a = none ∧ n = 0 ∧ c = 0) ∨ ∃ qb, a = some ⟨qb, 0, none⟩ ∧ c ≤ maxLen ∧ QAt w qb c Q ∧ ∀ x ∈ blksQ qb Q, x ∈ F)
def ptrsQ (Q : List (It × Nat)) : List Value := Q.map fun x => Value.pointer (some ⟨x.2, 0, none⟩)
set_option maxRecDepth 100000 in
theorem QS.owns {w : World} {a : Option Addr} {n c : Nat} {Q : List (It × Nat)} {F : List Nat} (h : QS w a n c Q F) : w.ownsRow 0 114 1 (.slice a n c) n (ptrsQ Q) := by
  obtain ⟨hn, hnc, h⟩ := h
  refine ⟨by simp [ptrsQ, hn], ?_⟩
  rcases h with ⟨rfl, rfl, rfl⟩ | ⟨qb, rfl, hc, hq, _⟩
  · exact .inl ⟨rfl, rfl⟩
  · obtain ⟨rest, hr, hrow⟩ := hq.row
    refine .inr ⟨qb, c, _, rfl, by omega, hrow, hnc, hc, by simp; omega, ?_⟩
    rw [List.toList_toArray, List.take_append_of_le_length (by simp; omega), List.take_of_length_le (by simp; omega)]
    rfl
set_option maxRecDepth 100000 in
theorem QS.chg {w w' : World} {a : Option Addr} {n c : Nat} {Q : List (It × Nat)} {F S : List Nat} (h : QS w a n c Q F) (hc : Chg S w w') (hS : ∀ x ∈ F, x ∉ S) : QS w' a n c Q F := by
  obtain ⟨hn, hnc, h⟩ := h
  refine ⟨hn, hnc, ?_⟩
  rcases h with h | ⟨qb, h1, h2, h3, h4⟩
  · exact .inl h
  · exact .inr ⟨qb, h1, h2, h3.chg hc fun x hx => hS x (h4 x hx), h4⟩
set_option maxRecDepth 100000 in
theorem QS.inF {w : World} {a : Option Addr} {n c : Nat} {Q : List (It × Nat)} {F : List Nat} (h : QS w a n c Q F) {x : It × Nat} (hx : x ∈ Q) : x.2 ∈ F := by
  obtain ⟨hn, hnc, h⟩ := h
  rcases h with ⟨rfl, rfl, rfl⟩ | ⟨qb, rfl, hc, hq, hF⟩
  · have : Q = [] := List.eq_nil_of_length_eq_zero hn.symm
    subst this
    simp at hx
  · exact hF _ (by simp only [blksQ, List.mem_cons, List.mem_map]; exact .inr ⟨x, hx, rfl⟩)
set_option maxRecDepth 100000 in
theorem QS.item {w : World} {a : Option Addr} {n c : Nat} {Q : List (It × Nat)} {F : List Nat} (h : QS w a n c Q F) {i : Nat} (hi : i < Q.length) : ItemAt w Q[i].2 Q[i].1 i := by
  obtain ⟨hn, hnc, h⟩ := h
  rcases h with ⟨rfl, rfl, rfl⟩ | ⟨qb, rfl, hc, hq, hF⟩
  · omega
  · exact hq.items i hi
set_option maxRecDepth 100000 in
theorem QS.nodup {w : World} {a : Option Addr} {n c : Nat} {Q : List (It × Nat)} {F : List Nat} (h : QS w a n c Q F) : (Q.map (·.2)).Nodup := by
  obtain ⟨hn, hnc, h⟩ := h
  rcases h with ⟨rfl, rfl, rfl⟩ | ⟨qb, rfl, hc, hq, hF⟩
  · have : Q = [] := List.eq_nil_of_length_eq_zero hn.symm
    subst this
    simp
  · exact hq.nodup
set_option maxRecDepth 100000 in
theorem QS.own_in {w : World} {a : Option Addr} {n c : Nat} {Q : List (It × Nat)} {F : List Nat} (h : QS w a n c Q F) {k : Nat} (hk : (Value.slice a n c).ownBlock = some k) : k ∈ F ∧ k < w.heap.size ∧ ∀ x ∈ Q, x.2 ≠ k := by
  obtain ⟨hn, hnc, h⟩ := h
  rcases h with ⟨rfl, rfl, rfl⟩ | ⟨qb, rfl, hc, hq, hF⟩
  · simp [Value.ownBlock] at hk
  · simp [Value.ownBlock] at hk
    subst hk
    refine ⟨hF _ (by simp [blksQ]), hq.lt, fun x hx => ?_⟩
    obtain ⟨i, hi, rfl⟩ := List.getElem_of_mem hx
    exact hq.ne i hi

/-- What 'Push' leaves behind. -/
def PushPost (w : World) (tb g n p : Nat) (mv : Value) (x : It) (Q : List (It × Nat)) (F : List Nat) (w' : World) : Prop :=
  ∃ qb cap, HeadAt w' tb mv (.slice (some ⟨qb, 0, none⟩) (n + 1) cap) p ∧ n + 1 ≤ cap ∧ cap ≤ maxLen ∧ QAt w' qb cap (Q ++ [(x, g)]) ∧ (∀ y ∈ blksQ qb (Q ++ [(x, g)]), y ∈ g :: F ∨ w.heap.size ≤ y) ∧ Chg (tb :: g :: F) w w'
set_option maxRecDepth 100000 in
theorem push_post {w w2 : World} {tb g n c p k qb cap : Nat} {mv v' : Value} {a : Option Addr} {x : It} {Q : List (It × Nat)} {F : List Nat} (h : QS w a n c Q F) (hh : HeadAt w tb mv (.slice a n c) p) (hi : ItemAt w g x k) (htF : tb ∉ F) (hgF : g ∉ F) (htg : tb ≠ g)
    (hown : w2.ownsRow 0 114 1 v' (n + 1) (ptrsQ Q ++ [.pointer (some ⟨g, 0, none⟩)]))
    (hg : ((w.setCell ⟨g, 3, none⟩ (.int .i64 n)).alloc (.cells #[.pointer (some ⟨g, 0, none⟩)] 114)).grownBy w2 (Value.slice a n c).ownBlock)
    (hv : v' = .slice (some ⟨qb, 0, none⟩) (n + 1) cap) (hw : (Value.slice a n c).ownBlock = some qb ∨ (w.heap.size + 1) ≤ qb) : PushPost w tb g n p mv x Q F (w2.setCell ⟨tb, 1, none⟩ v') := by
  have hlt := hh.lt
  have hglt := hi.lt
  have hsz : ((w.setCell ⟨g, 3, none⟩ (.int .i64 n)).alloc (.cells #[.pointer (some ⟨g, 0, none⟩)] 114)).heap.size = w.heap.size + 1 := by simp
  have hC0 : Chg (g :: F) w ((w.setCell ⟨g, 3, none⟩ (.int .i64 n)).alloc (.cells #[.pointer (some ⟨g, 0, none⟩)] 114)) := ((Chg.refl _ w).setCell (.inl (by simp)) _).alloc _
  have hC1 : Chg (g :: F) w w2 := hC0.grown hg fun y hy => .inl (List.mem_cons_of_mem _ (h.own_in hy).1)
  have hh2 : HeadAt w2 tb mv (.slice a n c) p := hh.chg hC1 (by simp [htg, htF])
  have htq : qb ≠ tb := by
    rcases hw with e | e
    · intro e2; subst e2; exact htF (h.own_in e).1
    · omega
  have hn := h.1
  rcases hown.2 with ⟨e, _⟩ | ⟨g2, cap2, cur, e, _, hblk, hnc, hcm, hcs, htake⟩
  · rw [hv] at e; cases e
  · rw [hv] at e
    injection e with e1 e2 e3
    injection e1 with e1
    injection e1 with e1
    subst e1; subst e3
    have hit : ItemAt w2 g x n := by
      have h1 : ItemAt ((w.setCell ⟨g, 3, none⟩ (.int .i64 n)).alloc (.cells #[.pointer (some ⟨g, 0, none⟩)] 114)) g x n := by
        unfold ItemAt
        exact heap_old (hi.move n)
      unfold ItemAt at h1 ⊢
      rw [hg.block g (by rw [hsz]; omega) (fun e => hgF (h.own_in e.symm).1)]
      exact h1
    refine ⟨qb, cap, ?_, hnc, hcm, ⟨⟨cur.toList.drop (n + 1), ?_, ?_⟩, ?_, ?_⟩, ?_, ?_⟩
    · rw [hv]; exact hh2.set1 _
    · simp; omega
    · rw [heap_set_other _ htq, hblk]
      have e4 : (Q ++ [(x, g)]).map (fun x => Value.pointer (some ⟨x.2, 0, none⟩)) = cur.toList.take (n + 1) := by
        rw [show cur.toList.take (n + 1) = cur.toList.take ((n + 1) * 1) by simp, htake]
        simp [ptrsQ]
      rw [e4, List.take_append_drop]
    · intro i hil
      rw [List.length_append] at hil
      by_cases e : i < Q.length
      · rw [List.getElem_append_left e]
        have h0 := h.item e
        have hm : Q[i].2 ∈ F := h.inF (List.getElem_mem e)
        have n1 : Q[i].2 ≠ tb := fun e => htF (e ▸ hm)
        have n2 : Q[i].2 ≠ g := fun e => hgF (e ▸ hm)
        have h1 : ItemAt ((w.setCell ⟨g, 3, none⟩ (.int .i64 n)).alloc (.cells #[.pointer (some ⟨g, 0, none⟩)] 114)) Q[i].2 Q[i].1 i := by
          unfold ItemAt at h0 ⊢
          exact heap_old (by rw [heap_set_other _ n2]; exact h0)
        have h2 := h1.lt
        unfold ItemAt at h1 ⊢
        rw [heap_set_other _ n1, hg.block _ h2 (fun e => (h.own_in e.symm).2.2 _ (List.getElem_mem _) rfl)]
        exact h1
      · have e5 : i = Q.length := by simp at hil; omega
        subst e5
        rw [List.getElem_append_right (Nat.le_refl _)]
        simp only [Nat.sub_self, List.getElem_cons_zero]
        rw [← hn]
        unfold ItemAt at hit ⊢
        rw [heap_set_other _ (Ne.symm htg)]
        exact hit
    · rw [List.map_append, List.nodup_append]
      refine ⟨h.nodup, by simp, ?_⟩
      intro y hy z hz
      simp at hz
      rw [hz]
      intro e
      rw [e] at hy
      obtain ⟨q, hq, hq2⟩ := List.mem_map.1 hy
      exact hgF (hq2 ▸ h.inF hq)
    · intro y hy
      simp only [blksQ, List.map_append, List.mem_cons, List.mem_append, List.map_cons, List.map_nil, List.mem_nil_iff, or_false] at hy
      rcases hy with e | e | e
      · rw [e]
        rcases hw with e | e
        · exact .inl (List.mem_cons_of_mem _ (h.own_in e).1)
        · right; omega
      · obtain ⟨q, hq, hq2⟩ := List.mem_map.1 e
        exact .inl (List.mem_cons_of_mem _ (hq2 ▸ h.inF hq))
      · left; rw [e]; simp
    · exact (hC1.mono fun y hy => List.mem_cons_of_mem _ hy).setCell (.inl (by simp)) _

end Go.Proofs.Ytgdnfempcjlipaa.Ti

namespace Go.Proofs.Ytgdnfempcjlipaa.Ti
open Go.RowKit

set_option maxRecDepth 100000 in
theorem wpList_push_own {P : Program} {w : World} {ops : Array Oper} {rest : List Oper} {o : Oper} {a : Act} {Q : Exit → Act → World → Prop} (hgd : o.guard = none) (s x : Operand) (t : TypeId)
    (ho : o.op = .call { callee := .builtin .append, args := #[s, x], argTypes := #[t, t] })
    (e : TypeId) (i : TypeInfo) (z : Value) (bytes : Nat) (ht : P.underlying t = some (.slice e)) (hi : P.info? e = some i) (hz : i.zero = some z)
    (hsize : i.size = 1) (hby : i.bytes = bytes) (hzs : z.cells.size = 1)
    (v : Value) (n : Nat) (xs : List Value) (hs : a.eval s = v) (hown : w.ownsRow 0 e 1 v n xs)
    (ad : Addr) (c : Nat) (u : Value) (hx : a.eval x = .slice (some ad) 1 c) (hnews : w.cell? (ad.add 0) = some u) (h1 : u.oneCell' = true)
    (h63 : n + 1 ≤ maxLen) (hbytes : (n + 1) * bytes ≤ 140737488355328)
    (h : ∀ v' w' g cap, w'.ownsRow 0 e 1 v' (n + 1) (xs ++ [u]) → w.grownBy w' v.ownBlock → v' = .slice (some ⟨g, 0, none⟩) (n + 1) cap → (v.ownBlock = some g ∨ w.heap.size ≤ g) → wpList P ops Q rest (a.put o.dst v') w') : wpList P ops Q (o :: rest) a w := by
  refine wpList_plain hgd fun _ hK => ?_
  obtain ⟨v', w', g, cap, hr, h2, h3, h4, h5⟩ := run_push_own (P := P) w t o.type e i z bytes ht hi hz hsize hby hzs v n xs hown ad c u hnews h1 h63 hbytes
  unfold Oper.wp execOp
  simp only [ho, resolve, invoke, builtin, Sem.run_bind, Sem.run_pure, Result.andThen_ok, List.map_toArray, List.map_cons, List.map_nil, hs, hx, hr]
  exact hK _ _ (h v' w' g cap h2 h3 h4 h5)

set_option maxRecDepth 100000 in
theorem cell_new1 (w : World) (u : Value) (e : TypeId) (s : Nat) (hs : s = w.heap.size) : (w.alloc (.cells #[u] e)).cell? ((⟨s, 0, none⟩ : Addr).add 0) = some u := by
  subst hs
  have h := heap_new w (.cells #[u] e)
  have e1 : (⟨w.heap.size, 0, none⟩ : Addr).add 0 = ⟨w.heap.size, 0, none⟩ := by simp [Addr.add]
  rw [e1, cell_of h]
  rfl
set_option maxRecDepth 100000 in
theorem run_isItem (a : Addr) (t0 : TypeId) (w : World) : (Instr.typeAssert (.iface 114 (.pointer (some a))) t0 114 true).run Try.prog w = .ok (.tuple #[.pointer (some a), .bool true]) w := by kernel_rfl

set_option maxRecDepth 100000 in
set_option maxHeartbeats 2000000 in
theorem qpush_any (tb g n c p k : Nat) (mv : Value) (a : Option Addr) (x : It) (Q : List (It × Nat)) (F : List Nat) (w : World) (h : QS w a n c Q F) (hh : HeadAt w tb mv (.slice a n c) p) (hi : ItemAt w g x k) (htF : tb ∉ F) (hgF : g ∉ F) (htg : tb ≠ g) (hlen : n ≤ 1000000000) :
    Calls Try.prog 107 #[.pointer (some ⟨tb, 1, none⟩), .iface 114 (.pointer (some ⟨g, 0, none⟩))] w fun e w' => e = .returned (.tuple #[]) ∧ PushPost w tb g n p mv x Q F w' := by
  have HPP : Hid (∀ (w2 : World) (qb cap : Nat) (v' : Value), w2.ownsRow 0 114 1 v' (n + 1) (ptrsQ Q ++ [.pointer (some ⟨g, 0, none⟩)]) → ((w.setCell ⟨g, 3, none⟩ (.int .i64 n)).alloc (.cells #[.pointer (some ⟨g, 0, none⟩)] 114)).grownBy w2 (Value.slice a n c).ownBlock →
    v' = .slice (some ⟨qb, 0, none⟩) (n + 1) cap → ((Value.slice a n c).ownBlock = some qb ∨ (w.heap.size + 1) ≤ qb) → PushPost w tb g n p mv x Q F (w2.setCell ⟨tb, 1, none⟩ v') ∧ w2.cell? ⟨tb, 1, none⟩ = some (.slice a n c) ∧ w2.frozen? ⟨tb, 1, none⟩ = false) := Lib.hid (fun w2 qb cap v' k1 k2 k3 k4 => by
      refine ⟨push_post h hh hi htF hgF htg k1 k2 k3 k4, ?_⟩
      have hC0 : Chg (g :: F) w ((w.setCell ⟨g, 3, none⟩ (.int .i64 n)).alloc (.cells #[.pointer (some ⟨g, 0, none⟩)] 114)) := ((Chg.refl _ w).setCell (.inl (by simp)) _).alloc _
      have hC1 : Chg (g :: F) w w2 := hC0.grown k2 fun y hy => .inl (List.mem_cons_of_mem _ (h.own_in hy).1)
      have hh2 : HeadAt w2 tb mv (.slice a n c) p := hh.chg hC1 (by simp [htg, htF])
      exact ⟨hh2.c1, hh2.fr 1⟩)
  have HO : Hid ((w.setCell ⟨g, 3, none⟩ (.int .i64 n)).ownsRow 0 114 1 (.slice a n c) n (ptrsQ Q)) := Lib.hid (QS.owns (h.chg (Chg.set1 w g 3 _) fun y hy => by simp; intro e; exact hgF (e ▸ hy)))
  have c1 := hh.c1
  have f1 := hh.fr 1
  have c3 := hi.c3
  have f3 := hi.fr 3
  obtain ⟨i0, hi0, hz0, hz1, hz2⟩ := info_parts (P := Try.prog) (e := 114) (z := .pointer none) (size := 1) (bytes := 8) (by kernel_rfl)
  have hta := fun t0 => run_isItem ⟨g, 0, none⟩ t0 w
  clear h hh hi htF hgF
  go_enter Try.func107, Try.ntmps107
  go_wp2_with (at_builtin; go_must (refine wpList_push_own rfl _ _ 111 rfl 114 i0 (.pointer none) 8 Try.underlying111 hi0 hz0 hz1 hz2 rfl (.slice a n c) n _ rfl (HO.out.alloc _) ⟨w.heap.size, 0, none⟩ 1 (.pointer (some ⟨g, 0, none⟩)) rfl (cell_new1 _ _ _ _ (by simp)) rfl (by unfold maxLen; omega) (by omega) ?_); go_must (intro v1 w1 qb cap hown1 hg1 hv1 hw1; obtain ⟨HP1, c11, f11⟩ := HPP.out w1 qb cap v1 hown1 hg1 hv1 (by simpa using hw1); have HP2 := Lib.hid HP1; clear HP1 hown1 hg1 hw1; subst hv1))
  go_end0
  exact ⟨rfl, HP2.out⟩

end Go.Proofs.Ytgdnfempcjlipaa.Ti

namespace Go.Proofs.Ytgdnfempcjlipaa.Ti
open Go.RowKit

set_option maxRecDepth 100000 in
theorem heap_snoc {Q : List (It × Nat)} {n : Nat} {x : It × Nat} (h : HeapN (itsQ Q) n) (hn : n = Q.length) : UpN (itsQ (Q ++ [x])) (n + 1) n := by
  have e : ∀ k, k < n → (itsQ (Q ++ [x])).getD k itZ = (itsQ Q).getD k itZ := by
    intro k hk
    have h1 : k < Q.length := by omega
    have h2 : k < (Q ++ [x]).length := by simp; omega
    rw [itsQ_get h1, itsQ_get h2, List.getElem_append_left h1]
  constructor
  · intro i h0 hi hne
    rw [e i (by omega), e _ (by omega)]
    exact h i h0 (by omega)
  · intro c h0 hc hcn
    omega
/-- What the library's 'Push' leaves behind. -/
def PutPost (w : World) (tb g n p : Nat) (mv : Value) (x : It) (Q : List (It × Nat)) (F : List Nat) (w' : World) : Prop :=
  ∃ qb cap R, HeadAt w' tb mv (.slice (some ⟨qb, 0, none⟩) (n + 1) cap) p ∧ n + 1 ≤ cap ∧ cap ≤ maxLen ∧ QAt w' qb cap R ∧ R.Perm (Q ++ [(x, g)]) ∧ HeapN (itsQ R) (n + 1) ∧ (∀ y ∈ blksQ qb R, y ∈ g :: F ∨ w.heap.size ≤ y) ∧ Chg (tb :: g :: F) w w'

set_option maxRecDepth 100000 in
set_option maxHeartbeats 2000000 in
theorem hpush_any (tb g n c p k : Nat) (mv : Value) (a : Option Addr) (x : It) (Q : List (It × Nat)) (F : List Nat) (w : World) (h : QS w a n c Q F) (hH : HeapN (itsQ Q) n) (hh : HeadAt w tb mv (.slice a n c) p) (hi : ItemAt w g x k) (htF : tb ∉ F) (hgF : g ∉ F) (htg : tb ≠ g) (hlen : n < 1000000000) :
    Calls Try.prog 59 #[qI tb, .iface 114 (.pointer (some ⟨g, 0, none⟩))] w fun e w' => e = .returned (.tuple #[]) ∧ PutPost w tb g n p mv x Q F w' := by
  have HALL := Lib.hid (And.intro h (And.intro hH (And.intro hh (And.intro hi (And.intro htF hgF)))))
  have hlt := hh.lt
  have m1 := m_push ⟨tb, 1, none⟩ w
  clear h hH hh hi htF hgF
  go_enter Try.func59, Try.ntmps59
  unfold qI
  go_wp2_with fail
  obtain ⟨h, hH, hh, hi, htF, hgF⟩ := HALL.out
  refine (qpush_any tb g n c p k mv a x Q F w h hh hi htF hgF htg (by omega)).mono ?_
  have HH := Lib.hid (heap_snoc (x := (x, g)) hH h.1)
  have HN := Lib.hid h.1
  clear h hH hh hi HALL
  rintro e w1 ⟨rfl, qb, cap, k1, k2, k3, k4, k5, k6⟩
  have hne : tb ∉ blksQ qb (Q ++ [(x, g)]) := by
    intro hx
    rcases k5 tb hx with e | e
    · simp [htg, htF] at e
    · omega
  have HK := Lib.hid (And.intro k1 (And.intro k2 (And.intro k3 (And.intro k5 k6))))
  have hq : QH w1 tb qb cap (Q ++ [(x, g)]) := ⟨by have := k1.c1; rw [List.length_append, ← HN.out]; exact this, k4, hne⟩
  have m2 := m_len _ _ _ k1.c1
  have e1 : ((n + 1 : Nat) : Int) - 1 = (n : Int) := by omega
  have e2 : (n : Int) + 1 - 1 = (n : Int) := by omega
  clear m1 k1 k2 k3 k4 k5 k6 htF hgF
  go_wp2_with fail
  refine (qlen_any _ _ _ _).mono ?_
  rintro e w2 ⟨rfl, rfl⟩
  clear m2
  go_wp2_with fail
  refine (up_any tb qb cap (n + 1) n (Q ++ [(x, g)]) _ hq (by have := HN.out; simp; omega) (by omega) HH.out (by have := HN.out; simp; omega)).mono ?_
  rintro e w3 ⟨rfl, R, r1, r2, r3, r4, r5⟩
  have HP : Hid (PutPost w tb g n p mv x Q F w3) := Lib.hid (by
    obtain ⟨k1, k2, k3, k5, k6⟩ := HK.out
    refine ⟨qb, cap, R, k1.chg r5 hne, k2, k3, r1.q, r2, r3, fun y hy => k5 y ((blks_perm r2 y).1 hy), ?_⟩
    exact k6.trans_new r5 fun y hy => (k5 y hy).imp (List.mem_cons_of_mem _) id)
  clear r1 r2 r3 r4 r5
  go_wp2
  go_end0
  exact ⟨rfl, HP.out⟩

set_option maxRecDepth 100000 in
/-- A thing at i is another one now; nothing else below n is. -/
theorem heap_changed_below {l m : List It} {n i : Nat} (h : HeapN l n) (hne : ∀ k, k ≠ i → k < n → m.getD k itZ = l.getD k itZ) (hin : i < n) : DownW m n i := by
  constructor
  · intro c h0 hc h1 h2
    rw [hne _ h1 (by omega), hne _ h2 hc]
    exact h c h0 hc
  · intro c h0 hc h1 h2
    rw [hne _ (by omega) (by omega), hne c (by omega) hc]
    have a := h c h0 hc
    rw [h1] at a
    exact leI_trans (h i h2 hin) a
/-- What the library's 'Remove' leaves behind. -/
def RemPost (w : World) (tb qb cap m p : Nat) (mv : Value) (x : It × Nat) (Q : List (It × Nat)) (w' : World) : Prop :=
  ∃ R, HeadAt w' tb mv (.slice (some ⟨qb, 0, none⟩) m cap) p ∧ m = R.length ∧ QAt w' qb cap R ∧ (R ++ [x]).Perm Q ∧ HeapN (itsQ R) m ∧ Chg (tb :: blksQ qb Q) w w'
set_option maxRecDepth 100000 in
theorem heap_take {R : List (It × Nat)} {m : Nat} (h : HeapN (itsQ R) m) (hm : m ≤ R.length) : HeapN (itsQ (R.take m)) m := by
  intro i h0 hi
  have e : ∀ k, k < m → (itsQ (R.take m)).getD k itZ = (itsQ R).getD k itZ := by
    intro k hk
    have h2 : k < (R.take m).length := by simp; omega
    rw [itsQ_get (by omega : k < R.length), itsQ_get h2, List.getElem_take]
  rw [e i hi, e _ (by omega)]
  exact h i h0 hi
set_option maxRecDepth 100000 in
theorem rem_post {w w1 w2 : World} {tb qb cap n m p : Nat} {mv : Value} {x : It × Nat} {Q R : List (It × Nat)} (hn : n = Q.length) (hm : n = m + 1) (hp : R.Perm Q) (hx : R.getD m (itZ, 0) = x) (hH : HeapN (itsQ R) m)
    (hc : Chg (blksQ qb Q) w w1) (h1 : HeadAt w2 tb mv (.slice (some ⟨qb, 0, none⟩) m cap) p) (h2 : QAt w2 qb cap (R.take m)) (h3 : Chg (tb :: blksQ qb R) w1 w2) : RemPost w tb qb cap m p mv x Q w2 := by
  have hl : R.length = m + 1 := by rw [hp.length_eq]; omega
  refine ⟨R.take m, h1, by simp; omega, h2, ?_, heap_take hH (by omega), ?_⟩
  · have e : R.take m ++ [x] = R := by
      have : x = R[m]'(by omega) := by rw [← hx]; simp [hl]
      rw [this, List.take_append_getElem (by omega)]
      rw [List.take_of_length_le (by omega)]
    rw [e]; exact hp
  · refine (hc.mono fun y hy => List.mem_cons_of_mem _ hy).trans (h3.mono ?_)
    intro y hy
    rcases List.mem_cons.1 hy with e | e
    · simp [e]
    · exact List.mem_cons_of_mem _ ((blks_perm hp y).1 e)

set_option maxRecDepth 100000 in
set_option maxHeartbeats 4000000 in
theorem hremove_any (tb qb cap n m p i : Nat) (mv : Value) (Q : List (It × Nat)) (w : World) (h : QAt w qb cap Q) (hne : tb ∉ blksQ qb Q) (hh : HeadAt w tb mv (.slice (some ⟨qb, 0, none⟩) n cap) p) (hH : HeapN (itsQ Q) n) (hn : Hid (n = Q.length)) (hm : n = m + 1) (hcap : n ≤ cap) (hlen : n ≤ 1000000000) (hi : i < n) :
    Calls Try.prog 79 #[qI tb, .int .i64 i] w fun e w' => (∃ v, e = .returned v) ∧ RemPost w tb qb cap m p mv (Q.getD i (itZ, 0)) Q w' := by
  have HM := Lib.hid hm
  have HH := Lib.hid hH
  have m1 := m_len _ _ _ hh.c1
  have e1 : (n : Int) - 1 = (m : Int) := by omega
  have hmn : m < n := by omega
  have mI : (m : Int) ≤ 1000000000 := by omega
  clear hm hH
  by_cases hil : i = m
  · subst hil
    have t1 : ((i : Int) != (i : Int)) = false := by simp
    have HL : Hid (HeapN (itsQ Q) i) := Lib.hid (fun k h0 hk => HH.out k h0 (by omega))
    go_enter Try.func79, Try.ntmps79
    unfold qI
    go_wp2_with fail
    refine (qlen_any _ _ _ _).mono ?_
    rintro e w2 ⟨rfl, rfl⟩
    have m2 := m_pop ⟨tb, 1, none⟩ w
    clear m1
    go_wp2_with fail
    refine (pop_any tb qb cap n i p mv Q w h hne hh hn HM.out hcap hlen).mono ?_
    rintro e w3 ⟨⟨v, rfl⟩, k1, k2, k3⟩
    have HP : Hid (RemPost w tb qb cap i p mv (Q.getD i (itZ, 0)) Q w3) := Lib.hid (rem_post hn.out HM.out (List.Perm.refl _) rfl HL.out (Chg.refl _ _) k1 k2 k3)
    clear k1 k2 k3 m2
    go_wp2
    go_ret
    exact ⟨⟨_, rfl⟩, HP.out⟩
  · have t1 : ((m : Int) != (i : Int)) = true := by simp; omega
    have t2 : (m != i) = true := by simp; omega
    have t3 : (m == i) = false := by simp; omega
    have him : i < m := by omega
    have hiQ : i < Q.length := by have := hn.out; omega
    have hmQ : m < Q.length := by have := hn.out; omega
    obtain ⟨Q1, hQ1⟩ : ∃ Q1, Q1 = swapI (itZ, 0) Q i m := ⟨_, rfl⟩
    have HD : Hid (DownW (itsQ Q1) m i) := Lib.hid (by
      refine heap_changed_below (l := itsQ Q) (fun k h0 hk => HH.out k h0 (by omega)) ?_ him
      intro k hk hkm
      rw [hQ1, itsQ_swap hiQ hmQ, swapI_get itZ (itsQ Q) i m k (by simpa [itsQ] using hiQ) (by simpa [itsQ] using hmQ), if_neg (by omega), if_neg hk])
    have HPM : Hid (Q1.Perm Q) := Lib.hid (by rw [hQ1]; exact swapI_perm _ _ _ _ hiQ hmQ)
    have HX : Hid (Q1.getD m (itZ, 0) = Q.getD i (itZ, 0)) := Lib.hid (by rw [hQ1, swapI_get _ _ _ _ _ hiQ hmQ, if_pos rfl])
    have HL1 : Hid (n = Q1.length) := Lib.hid (by rw [HPM.out.length_eq]; exact hn.out)
    have HQ1 := Lib.hid hQ1
    have hq0 : QH w tb qb cap Q := ⟨by have := hh.c1; rw [← hn.out]; exact this, h, hne⟩
    clear hQ1 hil
    go_enter Try.func79, Try.ntmps79
    unfold qI
    go_wp2_with fail
    refine (qlen_any _ _ _ _).mono ?_
    rintro e w2 ⟨rfl, rfl⟩
    have m2 := m_swap _ _ _ hh.c1
    clear m1
    go_wp2_with fail
    rw [hn.out]
    refine (swap_any qb cap i m Q w h hiQ hmQ (by omega)).mono ?_
    rw [← HQ1.out, ← hn.out]
    rintro e w3 ⟨rfl, q1, c1⟩
    have hq1 := hq0.to q1 HPM.out c1
    have hh1 := hh.chg c1 hne
    clear m2 hq0 h hh q1
    go_wp2_with fail
    refine (down_any tb qb cap m i Q1 _ hq1 (by have := HL1.out; omega) him HD.out (by have := HL1.out; omega)).mono ?_
    rintro e w4 (⟨rfl, R, r1, r2, r3, r4, r5⟩ | ⟨rfl, hq, hU, hc⟩)
    · have hne2 : tb ∉ blksQ qb R := r1.ne
      have hh2 := hh1.chg r5 hq1.ne
      have HR : Hid (R.Perm Q ∧ HeapN (itsQ R) m ∧ R.getD m (itZ, 0) = Q.getD i (itZ, 0) ∧ n = R.length ∧ Chg (blksQ qb Q) w w4) := Lib.hid ⟨r2.trans HPM.out, r3, by rw [← HX.out]; exact r4 m (Nat.le_refl _), by rw [r2.length_eq]; exact HL1.out, c1.trans (r5.mono fun y hy => (blks_perm HPM.out y).1 hy)⟩
      have m2 := m_pop ⟨tb, 1, none⟩ w4
      have qR := r1.q
      clear r1 r2 r3 r4 r5 hq1 hh1 c1
      go_wp2_with fail
      refine (pop_any tb qb cap n m p mv R w4 qR hne2 hh2 (Lib.hid HR.out.2.2.2.1) HM.out hcap hlen).mono ?_
      rintro e w5 ⟨⟨v, rfl⟩, k1, k2, k3⟩
      have HP : Hid (RemPost w tb qb cap m p mv (Q.getD i (itZ, 0)) Q w5) := Lib.hid (rem_post hn.out HM.out HR.out.1 HR.out.2.2.1 HR.out.2.1 HR.out.2.2.2.2 k1 k2 k3)
      clear k1 k2 k3 m2
      go_wp2
      go_ret
      exact ⟨⟨_, rfl⟩, HP.out⟩
    · have HU := Lib.hid hU
      have hh2 := hh1.chg hc hq1.ne
      have HC : Hid (Chg (blksQ qb Q) w w4) := Lib.hid (c1.trans (hc.mono fun y hy => (blks_perm HPM.out y).1 hy))
      clear hU hc hq1 hh1 c1
      go_wp2_with fail
      refine (up_any tb qb cap m i Q1 _ hq (by have := HL1.out; omega) him HU.out (by have := HL1.out; omega)).mono ?_
      rintro e w5 ⟨rfl, R, r1, r2, r3, r4, r5⟩
      have hne2 : tb ∉ blksQ qb R := r1.ne
      have hh3 := hh2.chg r5 hq.ne
      have HR : Hid (R.Perm Q ∧ HeapN (itsQ R) m ∧ R.getD m (itZ, 0) = Q.getD i (itZ, 0) ∧ n = R.length ∧ Chg (blksQ qb Q) w w5) := Lib.hid ⟨r2.trans HPM.out, r3, by rw [← HX.out]; exact r4 m (Nat.le_refl _), by rw [r2.length_eq]; exact HL1.out, HC.out.trans (r5.mono fun y hy => (blks_perm HPM.out y).1 hy)⟩
      have m2 := m_pop ⟨tb, 1, none⟩ w5
      have qR := r1.q
      clear r1 r2 r3 r4 r5 hq hh2
      go_wp2_with fail
      refine (pop_any tb qb cap n m p mv R w5 qR hne2 hh3 (Lib.hid HR.out.2.2.2.1) HM.out hcap hlen).mono ?_
      rintro e w6 ⟨⟨v, rfl⟩, k1, k2, k3⟩
      have HP : Hid (RemPost w tb qb cap m p mv (Q.getD i (itZ, 0)) Q w6) := Lib.hid (rem_post hn.out HM.out HR.out.1 HR.out.2.2.1 HR.out.2.1 HR.out.2.2.2.2 k1 k2 k3)
      clear k1 k2 k3 m2
      go_wp2
      go_ret
      exact ⟨⟨_, rfl⟩, HP.out⟩

end Go.Proofs.Ytgdnfempcjlipaa.Ti

namespace Go.Proofs.Ytgdnfempcjlipaa.Ti

def InI (k : Int) : Prop := -9223372036854775808 ≤ k ∧ k ≤ 9223372036854775807
/-- Without the thing of that number. -/
def delL (L : List It) (id : Int) : List It := L.filter fun x => decide (x.id ≠ id)
def putL (L : List It) (id due : Int) (p : Nat) : List It := delL L id ++ [⟨id, due, p⟩]
/-- What holds of things in the row in which they were put. -/
structure OkL (L : List It) (p : Nat) : Prop where
  ids : (L.map It.id).Nodup
  rise : L.Pairwise fun x y => x.put < y.put
  top : ∀ x ∈ L, x.put ≤ p
  idI : ∀ x ∈ L, InI x.id
  dueI : ∀ x ∈ L, InI x.due
  len : L.length ≤ p
set_option maxRecDepth 100000 in
theorem ok_nil : OkL [] 0 := ⟨by simp, by simp, by simp, by simp, by simp, by simp⟩
set_option maxRecDepth 100000 in
theorem delL_sub (L : List It) (id : Int) : (delL L id).Sublist L := List.filter_sublist
set_option maxRecDepth 100000 in
theorem mem_delL {L : List It} {id : Int} {x : It} : x ∈ delL L id ↔ x ∈ L ∧ x.id ≠ id := by simp [delL, List.mem_filter]
set_option maxRecDepth 100000 in
theorem OkL.sub {L M : List It} {p : Nat} (h : OkL L p) (hs : M.Sublist L) : OkL M p :=
  ⟨h.ids.sublist (hs.map _), h.rise.sublist hs, fun x hx => h.top x (hs.subset hx), fun x hx => h.idI x (hs.subset hx), fun x hx => h.dueI x (hs.subset hx), Nat.le_trans hs.length_le h.len⟩
set_option maxRecDepth 100000 in
theorem OkL.del {L : List It} {p : Nat} (h : OkL L p) (id : Int) : OkL (delL L id) p := h.sub (delL_sub L id)
set_option maxRecDepth 100000 in
theorem OkL.put {L : List It} {p : Nat} (h : OkL L p) {id due : Int} (h1 : InI id) (h2 : InI due) : OkL (putL L id due (p + 1)) (p + 1) := by
  have hd := h.del id
  refine ⟨?_, ?_, ?_, ?_, ?_, ?_⟩
  · unfold putL
    rw [List.map_append, List.nodup_append]
    refine ⟨hd.ids, by simp, ?_⟩
    intro a ha b hb
    simp at hb
    obtain ⟨x, hx, rfl⟩ := List.mem_map.1 ha
    rw [hb]
    exact (mem_delL.1 hx).2
  · unfold putL
    rw [List.pairwise_append]
    refine ⟨hd.rise, by simp, ?_⟩
    intro a ha b hb
    simp at hb
    rw [hb]
    have := hd.top a ha
    show a.put < p + 1
    omega
  · intro x hx
    rcases List.mem_append.1 hx with e | e
    · have := hd.top x e; omega
    · simp at e; rw [e]; exact Nat.le_refl _
  · intro x hx
    rcases List.mem_append.1 hx with e | e
    · exact hd.idI x e
    · simp at e; rw [e]; exact h1
  · intro x hx
    rcases List.mem_append.1 hx with e | e
    · exact hd.dueI x e
    · simp at e; rw [e]; exact h2
  · have := hd.len
    unfold putL
    simp only [List.length_append, List.length_cons, List.length_nil]
    omega
set_option maxRecDepth 100000 in
theorem delL_absent {L : List It} {id : Int} (h : ∀ x ∈ L, x.id ≠ id) : delL L id = L := List.filter_eq_self.2 fun x hx => by simpa using h x hx
set_option maxRecDepth 100000 in
/-- One goes out of a row that is the same but for its order. -/
theorem perm_out {x : It} {r L : List It} (h : (x :: r).Perm L) (hn : (L.map It.id).Nodup) : r.Perm (delL L x.id) := by
  have h1 : ((x :: r).map It.id).Nodup := ((h.map It.id).nodup_iff).2 hn
  rw [List.map_cons, List.nodup_cons] at h1
  have h2 := h.filter fun y => decide (y.id ≠ x.id)
  rw [List.filter_cons, if_neg (by simp)] at h2
  have h3 : r.filter (fun y => decide (y.id ≠ x.id)) = r := List.filter_eq_self.2 fun y hy => by
    have : y.id ≠ x.id := fun e => h1.1 (List.mem_map.2 ⟨y, hy, e⟩)
    simpa using this
  rw [h3] at h2
  exact h2
set_option maxRecDepth 100000 in
theorem eraseIdx_perm : ∀ (l : List It) (i : Nat) (hi : i < l.length), (l[i] :: l.eraseIdx i).Perm l
  | x :: l, 0, _ => List.Perm.refl _
  | x :: l, i + 1, h => (List.Perm.swap x _ _).trans (List.Perm.cons x (eraseIdx_perm l i (by simpa using h)))
set_option maxRecDepth 100000 in
theorem perm_set {l L : List It} {i : Nat} (hi : i < l.length) (hp : l.Perm L) (hn : (L.map It.id).Nodup) (y : It) : (l.set i y).Perm (delL L l[i].id ++ [y]) := by
  have h1 : (l[i] :: l.eraseIdx i).Perm l := eraseIdx_perm _ _ hi
  have h2 : (l.set i y).Perm (y :: l.eraseIdx i) := by
    have h3 : ((l.set i y)[i]'(by simpa using hi) :: (l.set i y).eraseIdx i).Perm (l.set i y) := eraseIdx_perm _ _ (by simpa using hi)
    rw [List.getElem_set_self, List.eraseIdx_set_eq] at h3
    exact h3.symm
  have h4 := perm_out (h1.trans hp) hn
  exact h2.trans ((List.Perm.cons y h4).trans (List.perm_append_singleton y _).symm)

/-- The first one: the one that is due soonest; of those of one reading the one that was put first. -/
def isMin (x : It) (L : List It) : Prop := x ∈ L ∧ ∀ y ∈ L, leI x y
def insI (x : It) : List It → List It
  | [] => [x]
  | y :: l => if ltI y x then y :: insI x l else x :: y :: l
def sortL : List It → List It
  | [] => []
  | x :: l => insI x (sortL l)
set_option maxRecDepth 100000 in
theorem insI_perm (x : It) (l : List It) : (insI x l).Perm (x :: l) := by
  induction l with
  | nil => exact List.Perm.refl _
  | cons y l ih =>
    unfold insI
    by_cases h : ltI y x = true
    · rw [if_pos h]
      exact (List.Perm.cons y ih).trans (List.Perm.swap x y l)
    · rw [if_neg h]
set_option maxRecDepth 100000 in
theorem sortL_perm (l : List It) : (sortL l).Perm l := by
  induction l with
  | nil => exact List.Perm.refl _
  | cons x l ih => exact (insI_perm x _).trans (List.Perm.cons x ih)
set_option maxRecDepth 100000 in
theorem insI_sorted (x : It) (l : List It) (h : l.Pairwise leI) : (insI x l).Pairwise leI := by
  induction l with
  | nil => simp [insI]
  | cons y l ih =>
    rw [List.pairwise_cons] at h
    unfold insI
    by_cases hl : ltI y x = true
    · rw [if_pos hl, List.pairwise_cons]
      refine ⟨fun z hz => ?_, ih h.2⟩
      rcases List.mem_cons.1 ((insI_perm x l).mem_iff.1 hz) with e | e
      · rw [e]; exact leI_of_lt hl
      · exact h.1 z e
    · have hl' : leI x y := by unfold leI; simpa using hl
      rw [if_neg hl, List.pairwise_cons, List.pairwise_cons]
      refine ⟨fun z hz => ?_, h⟩
      rcases List.mem_cons.1 hz with e | e
      · rw [e]; exact hl'
      · exact leI_trans hl' (h.1 z e)
set_option maxRecDepth 100000 in
theorem sortL_sorted (l : List It) : (sortL l).Pairwise leI := by
  induction l with
  | nil => simp [sortL]
  | cons x l ih => exact insI_sorted x _ ih
set_option maxRecDepth 100000 in
/-- Rows of things that were put one by one, each behind the others: sorted, they are equal if they hold the same. -/
theorem sorted_eq {L : List It} (h : L.Pairwise fun x y => x.put < y.put) : ∀ {a b : List It}, a.Pairwise leI → b.Pairwise leI → a.Perm L → b.Perm L → a = b := by
  intro a b ha hb h1 h2
  have hanti : ∀ x ∈ L, ∀ y ∈ L, leI x y → leI y x → x = y := by
    intro x hx y hy k1 k2
    rw [leI_iff] at k1 k2
    have e : x.put = y.put := by omega
    obtain ⟨i, hi, rfl⟩ := List.getElem_of_mem hx
    obtain ⟨j, hj, rfl⟩ := List.getElem_of_mem hy
    rcases Nat.lt_trichotomy i j with hh | hh | hh
    · have := List.pairwise_iff_getElem.1 h i j hi hj hh; omega
    · subst hh; rfl
    · have := List.pairwise_iff_getElem.1 h j i hj hi hh; omega
  exact List.Perm.eq_of_pairwise (fun x y hx hy k1 k2 => hanti x (h1.mem_iff.1 hx) y (h2.mem_iff.1 hy) k1 k2) ha hb (h1.trans h2.symm)
set_option maxRecDepth 100000 in
theorem min_head {x : It} {L : List It} (h : L.Pairwise fun x y => x.put < y.put) (hm : isMin x L) (hn : (L.map It.id).Nodup) : sortL L = x :: sortL (delL L x.id) := by
  have h1 : (x :: L.erase x).Perm L := (List.perm_cons_erase hm.1).symm
  have h2 := perm_out h1 hn
  have h3 : (x :: sortL (delL L x.id)).Perm L := ((List.Perm.cons x (sortL_perm _)).trans (List.Perm.cons x h2.symm)).trans h1
  refine sorted_eq h (sortL_sorted L) ?_ (sortL_perm L) h3
  rw [List.pairwise_cons]
  refine ⟨fun y hy => hm.2 y ?_, sortL_sorted _⟩
  exact (mem_delL.1 ((sortL_perm _).mem_iff.1 hy)).1
/-- What is due at a reading, in its row; what is left. -/
def dueL (L : List It) (now : Int) : List Int := ((sortL L).filter fun x => decide (x.due ≤ now)).map It.id
def restL (L : List It) (now : Int) : List It := L.filter fun x => decide (now < x.due)
set_option maxRecDepth 100000 in
theorem due_none {L : List It} {now : Int} (h : ∀ x ∈ L, now < x.due) : dueL L now = [] ∧ restL L now = L := by
  constructor
  · unfold dueL
    rw [List.filter_eq_nil_iff.2]
    · rfl
    · intro x hx
      have := h x ((sortL_perm L).mem_iff.1 hx)
      simp; omega
  · exact List.filter_eq_self.2 fun x hx => by simpa using h x hx
set_option maxRecDepth 100000 in
theorem due_step {x : It} {L : List It} {now : Int} (h : L.Pairwise fun x y => x.put < y.put) (hm : isMin x L) (hn : (L.map It.id).Nodup) (hx : x.due ≤ now) : dueL L now = x.id :: dueL (delL L x.id) now ∧ restL L now = restL (delL L x.id) now := by
  constructor
  · unfold dueL
    rw [min_head h hm hn, List.filter_cons, if_pos (by simpa using hx)]
    rfl
  · unfold restL delL
    rw [List.filter_filter]
    apply List.filter_congr
    intro y hy
    by_cases e : y.id = x.id
    · have : y = x := by
        obtain ⟨i, hi, rfl⟩ := List.getElem_of_mem hy
        obtain ⟨j, hj, rfl⟩ := List.getElem_of_mem hm.1
        rcases Nat.lt_trichotomy i j with hh | hh | hh
        · exact absurd (by rw [List.getElem_map, List.getElem_map]; exact e) (List.pairwise_iff_getElem.1 hn i j (by simpa using hi) (by simpa using hj) hh)
        · subst hh; rfl
        · exact absurd (by rw [List.getElem_map, List.getElem_map]; exact e.symm) (List.pairwise_iff_getElem.1 hn j i (by simpa using hj) (by simpa using hi) hh)
      subst this
      simp; omega
    · simp [e]
set_option maxRecDepth 100000 in
theorem delL_len {x : It} {L : List It} (hm : x ∈ L) (hn : (L.map It.id).Nodup) : (delL L x.id).length + 1 = L.length := by
  have h1 : (x :: L.erase x).Perm L := (List.perm_cons_erase hm).symm
  have := (perm_out h1 hn).length_eq
  have h3 := h1.length_eq
  simp only [List.length_cons] at h3
  omega

end Go.Proofs.Ytgdnfempcjlipaa.Ti

namespace Go.Proofs.Ytgdnfempcjlipaa.Ti
open Go.RowKit Go.Maps

/-- How a pointer to a block reads. -/
def ptrE : Value → Option (DataW Unit × List MemPlace)
  | .pointer none => some (.nil, [])
  | .pointer (some ⟨b, 0, none⟩) => some (.lit (.int .i64 (b : Int)), [])
  | _ => none
set_option maxRecDepth 100000 in
theorem ptrE_some (b : Nat) : ptrE (.pointer (some ⟨b, 0, none⟩)) = some (.lit (.int .i64 (b : Int)), []) := rfl
set_option maxRecDepth 100000 in
theorem ptrE_inv {v : Value} {b : Nat} {ps : List MemPlace} (h : ptrE v = some (.lit (.int .i64 (b : Int)), ps)) : v = .pointer (some ⟨b, 0, none⟩) := by
  unfold ptrE at h
  split at h
  · simp at h
  · rename_i c
    simp only [Option.some.injEq, Prod.mk.injEq, DataW.lit.injEq, Lit.int.injEq, true_and] at h
    have : c = b := by omega
    rw [this]
  · cases h
set_option maxRecDepth 100000 in
theorem ptrE_nil {v : Value} {ps : List MemPlace} (h : ptrE v = some (.nil, ps)) : v = .pointer none := by
  unfold ptrE at h
  split at h
  · rfl
  · simp at h
  · cases h
set_option maxRecDepth 100000 in
theorem lawI : Keyed Try.prog 3 := int_keyed Try.underlying3
set_option maxRecDepth 100000 in
theorem zeroP (w : World) : (zeroValue 114).run Try.prog w = .ok (.pointer none) w := by kernel_rfl
set_option maxRecDepth 100000 in
theorem key_i64 {k : Int} (h : -9223372036854775808 ≤ k ∧ k ≤ 9223372036854775807) : keyOf Try.prog 3 (.int .i64 k) = some (.int .i64 k) := keyOf_int_mk Try.underlying3 (WalkArith.wf_i64 h)

/-- The block mb is a map of at most n entries; at k it holds what f says. -/
def MapAt (w : World) (mb n : Nat) (f : Int → Option Nat) : Prop :=
  ∃ D : DataW Unit, w.ownsMap Try.prog 3 ptrE mb n D ∧ (∀ k, has D (.int .i64 k) = (f k).isSome) ∧ ∀ k b, f k = some b → ∀ z, D.atKey (.int .i64 k) z = .lit (.int .i64 (b : Int))
set_option maxRecDepth 100000 in
theorem MapAt.lt {w : World} {mb n : Nat} {f : Int → Option Nat} (h : MapAt w mb n f) : mb < w.heap.size := by obtain ⟨D, h, _⟩ := h; exact h.lt
set_option maxRecDepth 100000 in
theorem MapAt.chg {w w' : World} {S : List Nat} {mb n : Nat} {f : Int → Option Nat} (h : MapAt w mb n f) (hc : Chg S w w') (hm : mb ∉ S) : MapAt w' mb n f := by
  obtain ⟨D, ⟨es, clock, hb, hr⟩, h1, h2⟩ := h
  exact ⟨D, ⟨es, clock, hc.keep hb hm, hr⟩, h1, h2⟩
set_option maxRecDepth 100000 in
theorem MapAt.mono {w : World} {mb n m : Nat} {f : Int → Option Nat} (h : MapAt w mb n f) (hn : n ≤ m) : MapAt w mb m f := by
  obtain ⟨D, h0, h1, h2⟩ := h
  exact ⟨D, h0.mono hn, h1, h2⟩
set_option maxRecDepth 100000 in
theorem MapAt.not_cells {w : World} {mb n : Nat} {f : Int → Option Nat} (h : MapAt w mb n f) (c : Array Value) (t : TypeId) (fz : Nat × Nat) : w.heap[mb]? ≠ some (.cells c t fz) := by
  obtain ⟨D, ⟨es, clock, hb, _⟩, _⟩ := h
  rw [hb]
  intro e
  cases e
set_option maxRecDepth 100000 in
theorem map_new (w : World) : MapAt (w.alloc (.map #[] 0)) w.heap.size 0 (fun _ => none) := by
  refine ⟨.map [], World.ownsMap_made _ _ _ _, fun k => rfl, fun k b h => by cases h⟩

section
variable {w : World} {mb n : Nat} {f : Int → Option Nat}
set_option maxRecDepth 100000 in
theorem MapAt.look (h : MapAt w mb n f) {k : Int} (hk : InI k) {b : Nat} (hb : f k = some b) : (Instr.lookup 109 (.map (some mb)) (.int .i64 k) true).run Try.prog w = .ok (.tuple #[.pointer (some ⟨b, 0, none⟩), .bool true]) w := by
  obtain ⟨D, h0, h1, h2⟩ := h
  obtain ⟨v, ps, hrun, hv⟩ := h0.look_ok lawI Try.underlying109 (zeroP w) (zd := .nil) (zp := []) rfl (key_i64 hk)
  rw [h2 k b hb] at hv
  rw [hrun, h1, hb, ptrE_inv hv]
  rfl
set_option maxRecDepth 100000 in
theorem MapAt.look_none (h : MapAt w mb n f) {k : Int} (hk : InI k) (hb : f k = none) : (Instr.lookup 109 (.map (some mb)) (.int .i64 k) true).run Try.prog w = .ok (.tuple #[.pointer none, .bool false]) w := by
  obtain ⟨D, h0, h1, h2⟩ := h
  obtain ⟨v, ps, hrun, hv⟩ := h0.look_ok lawI Try.underlying109 (zeroP w) (zd := .nil) (zp := []) rfl (key_i64 hk)
  have hno : has D (.int .i64 k) = false := by rw [h1, hb]; rfl
  rw [atKey_of_not_has hno] at hv
  rw [hrun, hno, ptrE_nil hv]
end
set_option maxRecDepth 100000 in
theorem look_nilmap (w : World) {k : Int} (hk : InI k) : (Instr.lookup 109 (.map none) (.int .i64 k) true).run Try.prog w = .ok (.tuple #[.pointer none, .bool false]) w := by
  have := Maps.look_nil (w := w) true lawI Try.underlying109 (zeroP w) (key_i64 hk)
  simpa using this

set_option maxRecDepth 100000 in
theorem isKeyI (k : Int) : WideAt.IsKeyLit (.int .i64 k) := trivial
set_option maxRecDepth 100000 in
theorem lit_ne {a b : Int} (h : a ≠ b) : (Lit.int .i64 a) ≠ .int .i64 b := by intro e; injection e with _ e; exact h e
set_option maxRecDepth 100000 in
theorem chg_turned {w w' : World} {b : Nat} (h : w.mapTurned w' b) : Chg [b] w w' := by
  have hg := h.grown
  exact ⟨hg.os, hg.tape, hg.output, hg.size, fun k hk hs => hg.block k hk (by simp at hs; simpa using hs)⟩
set_option maxRecDepth 100000 in
/-- A store into the map. -/
theorem MapAt.put {w : World} {mb n : Nat} {f : Int → Option Nat} (h : MapAt w mb n f) {k : Int} (hk : InI k) (b : Nat) (hn : n < 1000000000) : ∃ w', (Instr.mapUpdate 109 (.map (some mb)) (.int .i64 k) (.pointer (some ⟨b, 0, none⟩))).run Try.prog w = .ok () w' ∧ MapAt w' mb (n + 1) (fun x => if x = k then some b else f x) ∧ Chg [mb] w w' := by
  obtain ⟨D, h0, h1, h2⟩ := h
  obtain ⟨w', hrun, h3, h4⟩ := h0.store lawI Try.underlying109 (by unfold maxLen; omega) (key_i64 hk) (ptrE_some b)
  refine ⟨w', hrun, ⟨_, h3, fun x => ?_, fun x c hx z => ?_⟩, chg_turned h4⟩
  · by_cases e : x = k
    · subst e; rw [has_put_same h0.isMap (isKeyI _)]; simp only [if_true, Option.isSome_some]
    · rw [has_put_other (lit_ne e)]; dsimp only; rw [if_neg e, h1]
  · by_cases e : x = k
    · subst e
      dsimp only at hx
      rw [if_pos rfl] at hx
      cases hx
      exact atKey_put_same h0.isMap (isKeyI _) _ _
    · dsimp only at hx
      rw [if_neg e] at hx
      rw [atKey_put_other (lit_ne e)]
      exact h2 x c hx z
set_option maxRecDepth 100000 in
theorem wpList_put {w : World} {ops : Array Oper} {rest : List Oper} {o : Oper} {a : Act} {Q : Exit → Act → World → Prop} (hg : o.guard = none) (m x v : Operand) (hop : o.op = Op.mapUpdate 109 m x v)
    {mb n : Nat} {f : Int → Option Nat} (h : MapAt w mb n f) (k : Int) (hk : InI k) (b : Nat) (hn : n < 1000000000) (hm : a.eval m = .map (some mb)) (hx : a.eval x = .int .i64 k) (hv : a.eval v = .pointer (some ⟨b, 0, none⟩))
    (hK : ∀ w', MapAt w' mb (n + 1) (fun x => if x = k then some b else f x) → Chg [mb] w w' → wpList Try.prog ops Q rest (a.put o.dst undef) w') : wpList Try.prog ops Q (o :: rest) a w := by
  refine wpList_plain hg fun K' hK' => ?_
  obtain ⟨w', hrun, r1, r2⟩ := h.put hk b hn
  unfold Oper.wp
  simp [execOp, hop, hm, hx, hv, hrun, Result.andThen]
  exact hK' _ _ (hK w' r1 r2)
set_option maxRecDepth 100000 in
/-- A number goes out of the map. -/
theorem wpList_del {w : World} {ops : Array Oper} {rest : List Oper} {o : Oper} {a : Act} {Q : Exit → Act → World → Prop} (hg : o.guard = none) (m x : Operand) (hop : o.op = Op.call { callee := Callee.builtin Builtin.delete, args := #[m, x], argTypes := #[109, 3] })
    {mb n : Nat} {f : Int → Option Nat} (h : MapAt w mb n f) (k : Int) (hk : InI k) (hm : a.eval m = .map (some mb)) (hx : a.eval x = .int .i64 k)
    (hK : ∀ w', MapAt w' mb n (fun x => if x = k then none else f x) → Chg [mb] w w' → wpList Try.prog ops Q rest (a.put o.dst (.tuple #[])) w') : wpList Try.prog ops Q (o :: rest) a w := by
  obtain ⟨D, h0, h1, h2⟩ := h
  refine wpList_delete_own w hg m x 109 3 hop 114 lawI Try.underlying109 ptrE mb n D hm h0 _ _ hx (key_i64 hk) fun w' h3 h4 => ?_
  refine hK w' ⟨_, h3, fun x => ?_, fun x c hx z => ?_⟩ (chg_turned h4)
  · by_cases e : x = k
    · subst e; rw [has_del_same]; simp only [if_true, Option.isSome_none]
    · rw [has_del_other (lit_ne e)]; dsimp only; rw [if_neg e, h1]
  · by_cases e : x = k
    · subst e
      dsimp only at hx
      rw [if_pos rfl] at hx
      cases hx
    · dsimp only at hx
      rw [if_neg e] at hx
      rw [atKey_del_other (lit_ne e)]
      exact h2 x c hx z

end Go.Proofs.Ytgdnfempcjlipaa.Ti

namespace Go.Proofs.Ytgdnfempcjlipaa.Ti
open Go.RowKit

def FQ (f : Int → Option Nat) (Q : List (It × Nat)) : Prop := ∀ k b, f k = some b ↔ ∃ x ∈ Q, x.1.id = k ∧ x.2 = b
def MapQ (w : World) (mv : Value) (p : Nat) (F : List Nat) (Q : List (It × Nat)) : Prop :=
  (mv = .map none ∧ Q = []) ∨ ∃ mb k f, mv = .map (some mb) ∧ MapAt w mb k f ∧ k ≤ p ∧ mb ∈ F ∧ FQ f Q
set_option maxRecDepth 100000 in
theorem MapQ.chg {w w' : World} {S : List Nat} {mv : Value} {p : Nat} {F : List Nat} {Q : List (It × Nat)} (h : MapQ w mv p F Q) (hc : Chg S w w') (hS : ∀ mb k f, MapAt w mb k f → mb ∈ F → mb ∉ S) : MapQ w' mv p F Q := by
  rcases h with h | ⟨mb, k, f, h1, h2, h3, h4, h5⟩
  · exact .inl h
  · exact .inr ⟨mb, k, f, h1, h2.chg hc (hS mb k f h2 h4), h3, h4, h5⟩
set_option maxRecDepth 100000 in
theorem MapQ.mono {w : World} {mv : Value} {p q : Nat} {F : List Nat} {Q : List (It × Nat)} (h : MapQ w mv p F Q) (hq : p ≤ q) : MapQ w mv q F Q := by
  rcases h with h | ⟨mb, k, f, h1, h2, h3, h4, h5⟩
  · exact .inl h
  · exact .inr ⟨mb, k, f, h1, h2, by omega, h4, h5⟩
set_option maxRecDepth 100000 in
theorem MapQ.look {w : World} {mv : Value} {p : Nat} {F : List Nat} {Q : List (It × Nat)} (h : MapQ w mv p F Q) {id : Int} (hid : InI id) {x : It × Nat} (hx : x ∈ Q) (e : x.1.id = id) : (Instr.lookup 109 mv (.int .i64 id) true).run Try.prog w = .ok (.tuple #[.pointer (some ⟨x.2, 0, none⟩), .bool true]) w := by
  rcases h with ⟨_, h⟩ | ⟨mb, k, f, h1, h2, h3, h4, h5⟩
  · rw [h] at hx; simp at hx
  · rw [h1]
    exact h2.look hid ((h5 _ _).2 ⟨x, hx, e, rfl⟩)
set_option maxRecDepth 100000 in
theorem MapQ.look_none {w : World} {mv : Value} {p : Nat} {F : List Nat} {Q : List (It × Nat)} (h : MapQ w mv p F Q) {id : Int} (hid : InI id) (hx : ∀ x ∈ Q, x.1.id ≠ id) : (Instr.lookup 109 mv (.int .i64 id) true).run Try.prog w = .ok (.tuple #[.pointer none, .bool false]) w := by
  rcases h with ⟨h1, _⟩ | ⟨mb, k, f, h1, h2, h3, h4, h5⟩
  · rw [h1]; exact look_nilmap w hid
  · rw [h1]
    refine h2.look_none hid ?_
    cases hf : f id with
    | none => rfl
    | some b =>
      obtain ⟨x, hxq, e, _⟩ := (h5 _ _).1 hf
      exact absurd e (hx x hxq)

/-- Timers, with all that is inside. -/
structure TI (w : World) (tb : Nat) (F : List Nat) (L : List It) (p : Nat) (mv : Value) (a : Option Addr) (n c : Nat) (Q : List (It × Nat)) : Prop where
  head : HeadAt w tb mv (.slice a n c) p
  qs : QS w a n c Q F
  heap : HeapN (itsQ Q) n
  perm : (itsQ Q).Perm L
  map : MapQ w mv p F Q
  out : tb ∉ F
  low : ∀ y ∈ F, y < w.heap.size
  ok : OkL L p
/-- The block tb holds timers of these things, in the row in which they were put; the other blocks lie in F. -/
def TimersAt (w : World) (tb : Nat) (F : List Nat) (L : List It) (p : Nat) : Prop := ∃ mv a n c Q, TI w tb F L p mv a n c Q
set_option maxRecDepth 100000 in
theorem TI.len {w : World} {tb : Nat} {F : List Nat} {L : List It} {p : Nat} {mv : Value} {a : Option Addr} {n c : Nat} {Q : List (It × Nat)} (h : TI w tb F L p mv a n c Q) : n = L.length := by
  rw [h.qs.1, ← h.perm.length_eq]; simp [itsQ]
set_option maxRecDepth 100000 in
theorem TI.of_mem {w : World} {tb : Nat} {F : List Nat} {L : List It} {p : Nat} {mv : Value} {a : Option Addr} {n c : Nat} {Q : List (It × Nat)} (h : TI w tb F L p mv a n c Q) {x : It} (hx : x ∈ L) : ∃ (i : Nat) (hi : i < Q.length), Q[i].1 = x := by
  have := h.perm.mem_iff.2 hx
  obtain ⟨q, hq, rfl⟩ := List.mem_map.1 this
  obtain ⟨i, hi, rfl⟩ := List.getElem_of_mem hq
  exact ⟨i, hi, rfl⟩
set_option maxRecDepth 100000 in
theorem TI.mem {w : World} {tb : Nat} {F : List Nat} {L : List It} {p : Nat} {mv : Value} {a : Option Addr} {n c : Nat} {Q : List (It × Nat)} (h : TI w tb F L p mv a n c Q) {x : It × Nat} (hx : x ∈ Q) : x.1 ∈ L := h.perm.mem_iff.1 (List.mem_map.2 ⟨x, hx, rfl⟩)
set_option maxRecDepth 100000 in
theorem TimersAt.lt {w : World} {tb : Nat} {F : List Nat} {L : List It} {p : Nat} (h : TimersAt w tb F L p) : tb < w.heap.size := by
  obtain ⟨mv, a, n, c, Q, h⟩ := h; exact h.head.lt
set_option maxRecDepth 100000 in
theorem TimersAt.low {w : World} {tb : Nat} {F : List Nat} {L : List It} {p : Nat} (h : TimersAt w tb F L p) : ∀ y ∈ F, y < w.heap.size := by
  obtain ⟨mv, a, n, c, Q, h⟩ := h; exact h.low
set_option maxRecDepth 100000 in
theorem TimersAt.ok {w : World} {tb : Nat} {F : List Nat} {L : List It} {p : Nat} (h : TimersAt w tb F L p) : OkL L p := by
  obtain ⟨mv, a, n, c, Q, h⟩ := h; exact h.ok
set_option maxRecDepth 100000 in
theorem TI.chg {w w' : World} {S : List Nat} {tb : Nat} {F : List Nat} {L : List It} {p : Nat} {mv : Value} {a : Option Addr} {n c : Nat} {Q : List (It × Nat)} (h : TI w tb F L p mv a n c Q) (hc : Chg S w w') (ht : tb ∉ S) (hF : ∀ y ∈ F, y ∉ S) : TI w' tb F L p mv a n c Q :=
  ⟨h.head.chg hc ht, h.qs.chg hc hF, h.heap, h.perm, h.map.chg hc fun mb _ _ _ hm => hF mb hm, h.out, fun y hy => Nat.lt_of_lt_of_le (h.low y hy) hc.size, h.ok⟩
set_option maxRecDepth 100000 in
theorem TimersAt.chg {w w' : World} {S : List Nat} {tb : Nat} {F : List Nat} {L : List It} {p : Nat} (h : TimersAt w tb F L p) (hc : Chg S w w') (ht : tb ∉ S) (hF : ∀ y ∈ F, y ∉ S) : TimersAt w' tb F L p := by
  obtain ⟨mv, a, n, c, Q, h⟩ := h
  exact ⟨mv, a, n, c, Q, h.chg hc ht hF⟩
set_option maxRecDepth 100000 in
theorem TimersAt.same {w w' : World} {tb : Nat} {F : List Nat} {L : List It} {p : Nat} (h : TimersAt w tb F L p) (hc : Chg [] w w') : TimersAt w' tb F L p := h.chg hc (by simp) (by simp)
set_option maxRecDepth 100000 in
theorem TimersAt.drewN {w : World} {tb : Nat} {F : List Nat} {L : List It} {p : Nat} (h : TimersAt w tb F L p) (n : Nat) : TimersAt (w.drewN n) tb F L p := h.same ((Chg.refl [] w).drewN n)

set_option maxRecDepth 100000 in
theorem new_at (w : World) : TimersAt (w.alloc (.cells #[.map none, .slice none 0 0, .int .u64 0] 113)) w.heap.size [] [] 0 :=
  ⟨.map none, none, 0, 0, [], ⟨heap_new w _, ⟨rfl, Nat.le_refl _, .inl ⟨rfl, rfl, rfl⟩⟩, fun i _ h => by omega, List.Perm.refl _, .inl ⟨rfl, rfl⟩, by simp, by simp, ok_nil⟩⟩
set_option maxRecDepth 100000 in
theorem new_any (w : World) :
    Calls Try.prog 46 #[] w fun e w' => e = .returned (.pointer (some ⟨w.heap.size, 0, none⟩)) ∧ w' = w.alloc (.cells #[.map none, .slice none 0 0, .int .u64 0] 113) := by
  go_enter Try.func46, Try.ntmps46
  go_wp2
  go_ret
  exact ⟨rfl, rfl⟩

set_option maxRecDepth 100000 in
theorem len_any (tb : Nat) (F : List Nat) (L : List It) (p : Nat) (w : World) (h : TimersAt w tb F L p) :
    Calls Try.prog 99 #[.pointer (some ⟨tb, 0, none⟩)] w fun e w' => e = .returned (.int .i64 L.length) ∧ w = w' := by
  obtain ⟨mv, a, n, c, Q, h⟩ := h
  have c1 := h.head.c1
  rw [← h.len]
  go_enter Try.func99, Try.ntmps99
  go_wp2
  go_ret
  exact ⟨rfl, rfl⟩

set_option maxRecDepth 100000 in
theorem next_none (tb : Nat) (F : List Nat) (p : Nat) (w : World) (h : TimersAt w tb F [] p) :
    Calls Try.prog 63 #[.pointer (some ⟨tb, 0, none⟩)] w fun e w' => e = .returned (.tuple #[.int .i64 0, .int .i64 0, .bool false]) ∧ ∃ n, w' = w.drewN n := by
  obtain ⟨mv, a, n, c, Q, h⟩ := h
  have c1 := h.head.c1
  have hn : n = 0 := h.len
  subst hn
  clear h
  go_enter Try.func63, Try.ntmps63
  go_wp2
  go_ret3
  exact ⟨rfl, 0, rfl⟩
set_option maxRecDepth 100000 in
theorem next_some (tb : Nat) (F : List Nat) (L : List It) (p : Nat) (w : World) (h : TimersAt w tb F L p) (hL : 0 < L.length) :
    ∃ x, isMin x L ∧ Calls Try.prog 63 #[.pointer (some ⟨tb, 0, none⟩)] w fun e w' => e = .returned (.tuple #[.int .i64 x.id, .int .i64 x.due, .bool true]) ∧ ∃ n, w' = w.drewN n := by
  obtain ⟨mv, a, n, c, Q, h⟩ := h
  have hn : n = L.length := h.len
  have hQ0 : 0 < Q.length := by rw [← h.qs.1]; omega
  refine ⟨Q[0].1, ⟨h.mem (List.getElem_mem hQ0), fun y hy => ?_⟩, ?_⟩
  · obtain ⟨i, hi, rfl⟩ := h.of_mem hy
    have hr := heap_root (l := itsQ Q) (fun k h0 hk => h.heap k h0 (by rw [h.qs.1]; simpa [itsQ] using hk)) i (by simpa [itsQ] using hi)
    rw [itsQ_get hQ0, itsQ_get hi] at hr
    exact hr
  · have c1 := h.head.c1
    have hit := h.qs.item hQ0
    have k0 := hit.c0
    have k1 := hit.c1
    obtain ⟨_, _, hq⟩ := h.qs
    rcases hq with ⟨_, e, _⟩ | ⟨qb, rfl, _, hq, _⟩
    · omega
    · have k2 := hq.get 0 hQ0
      obtain ⟨g, hg⟩ : ∃ g, g = Q[0].2 := ⟨_, rfl⟩
      obtain ⟨x, hx⟩ : ∃ x, x = Q[0].1 := ⟨_, rfl⟩
      rw [← hx] at k0 k1 ⊢
      rw [← hg] at k0 k1 k2
      have t1 : ((n : Int) == 0) = false := by simp; omega
      have t2 : (n == 0) = false := by simp; omega
      have t3 : (0 : Int) < (n : Int) := by omega
      have t4 : 0 < n := by omega
      clear hg hx h hq hit hQ0 hn hL
      go_enter Try.func63, Try.ntmps63
      go_wp2_with fail
      go_quiet (fail)
      go_wp2
      go_ret3
      exact ⟨rfl, _, rfl⟩

end Go.Proofs.Ytgdnfempcjlipaa.Ti

namespace Go.Proofs.Ytgdnfempcjlipaa.Ti
open Go.RowKit

set_option maxRecDepth 100000 in
theorem FQ_iff {f : Int → Option Nat} {Q : List (It × Nat)} : FQ f Q ↔ ∀ k b, f k = some b ↔ (k, b) ∈ Q.map (fun x => (x.1.id, x.2)) := by
  unfold FQ
  simp only [List.mem_map, Prod.mk.injEq]
set_option maxRecDepth 100000 in
theorem FQ.perm {f : Int → Option Nat} {Q R : List (It × Nat)} (h : FQ f Q) (hp : R.Perm Q) : FQ f R := by
  rw [FQ_iff] at h ⊢
  intro k b
  rw [h k b, (hp.map _).mem_iff]
set_option maxRecDepth 100000 in
theorem FQ.set {f : Int → Option Nat} {Q : List (It × Nat)} (h : FQ f Q) {i : Nat} (hi : i < Q.length) {y : It × Nat} (h1 : y.1.id = Q[i].1.id) (h2 : y.2 = Q[i].2) : FQ f (Q.set i y) := by
  rw [FQ_iff] at h ⊢
  have e : (Q.set i y).map (fun x => (x.1.id, x.2)) = Q.map (fun x => (x.1.id, x.2)) := by
    rw [List.map_set, h1, h2]
    apply List.ext_getElem
    · simp
    · intro k hk1 hk2
      rw [List.getElem_set]
      split
      · rename_i e; subst e; simp
      · rfl
  rw [e]
  exact h
set_option maxRecDepth 100000 in
theorem MapAt.notQ {w : World} {mb k : Nat} {f : Int → Option Nat} (h : MapAt w mb k f) {qb cap : Nat} {Q : List (It × Nat)} (hq : QAt w qb cap Q) : mb ∉ blksQ qb Q := by
  intro hm
  rcases List.mem_cons.1 hm with e | e
  · obtain ⟨rest, _, hr⟩ := hq.row
    rw [← e] at hr
    exact h.not_cells _ _ _ hr
  · obtain ⟨x, hx, e2⟩ := List.mem_map.1 e
    obtain ⟨i, hi, rfl⟩ := List.getElem_of_mem hx
    have := hq.items i hi
    unfold ItemAt at this
    rw [e2] at this
    exact h.not_cells _ _ _ this
set_option maxRecDepth 100000 in
theorem MapAt.notT {w : World} {mb k : Nat} {f : Int → Option Nat} (h : MapAt w mb k f) {tb p : Nat} {mv qv : Value} (hh : HeadAt w tb mv qv p) : mb ≠ tb := by
  intro e
  unfold HeadAt at hh
  rw [← e] at hh
  exact h.not_cells _ _ _ hh

set_option maxRecDepth 100000 in
theorem drop_none (tb : Nat) (F : List Nat) (L : List It) (p : Nat) (id : Int) (w : World) (h : TimersAt w tb F L p) (hi : InI id) (hx : ∀ x ∈ L, x.id ≠ id) :
    Calls Try.prog 64 #[.pointer (some ⟨tb, 0, none⟩), .int .i64 id] w fun e w' => e = .returned (.bool false) ∧ w = w' := by
  obtain ⟨mv, a, n, c, Q, h⟩ := h
  have c0 := h.head.c0
  have hl := h.map.look_none hi fun x hq => hx _ (h.mem hq)
  clear h hx hi
  go_enter Try.func64, Try.ntmps64
  go_wp2
  go_ret
  exact ⟨rfl, rfl⟩

set_option maxRecDepth 100000 in
theorem drop_post {w w1 w2 : World} {tb : Nat} {F : List Nat} {L : List It} {p qb n m c i mb k : Nat} {f : Int → Option Nat} {Q : List (It × Nat)} (h : TI w tb F L p (.map (some mb)) (some ⟨qb, 0, none⟩) n c Q) (hi : i < Q.length) (hkp : k ≤ p) (hmF : mb ∈ F) (hF : FQ f Q) (hmm : n = m + 1)
    (hr : RemPost w tb qb c m p (.map (some mb)) (Q.getD i (itZ, 0)) Q w1) (hm : MapAt w2 mb k (fun x => if x = Q[i].1.id then none else f x)) (hc : Chg [mb] w1 w2) (hmQ : mb ∉ blksQ qb Q) (hmt : mb ≠ tb) (hbF : ∀ y ∈ blksQ qb Q, y ∈ F) (hcm : c ≤ maxLen) :
    TimersAt w2 tb F (delL L Q[i].1.id) p ∧ Chg (tb :: F) w w2 := by
  obtain ⟨R, r1, r2, r3, r4, r5, r6⟩ := hr
  have e0 : Q.getD i (itZ, 0) = Q[i] := by simp [hi]
  rw [e0] at r4
  have hsub : ∀ y ∈ blksQ qb R, y ∈ blksQ qb Q := by
    intro y hy
    rcases List.mem_cons.1 hy with e | e
    · simp [blksQ, e]
    · obtain ⟨x, hx, rfl⟩ := List.mem_map.1 e
      simp only [blksQ, List.mem_cons, List.mem_map]
      exact .inr ⟨x, r4.mem_iff.1 (by simp [hx]), rfl⟩
  have hlen : n = Q.length := h.qs.1
  have hnc := h.qs.2.1
  have hpi : (Q[i].1 :: itsQ R).Perm L := by
    have h1 := r4.map (·.1)
    rw [List.map_append] at h1
    exact ((List.perm_append_singleton Q[i].1 (itsQ R)).symm.trans h1).trans h.perm
  have hids : ((Q[i].1 :: itsQ R).map It.id).Nodup := ((hpi.map It.id).nodup_iff).2 h.ok.ids
  refine ⟨⟨.map (some mb), some ⟨qb, 0, none⟩, m, c, R, ⟨r1.chg hc (by simp; exact Ne.symm hmt), ⟨r2, by omega, .inr ⟨qb, rfl, hcm, r3.chg hc (by intro y hy; simp; intro e; subst e; exact hmQ (hsub _ hy)), fun y hy => hbF y (hsub y hy)⟩⟩, r5, perm_out hpi h.ok.ids, ?_, h.out, ?_, h.ok.del _⟩⟩, ?_⟩
  · refine .inr ⟨mb, k, _, rfl, hm, hkp, hmF, ?_⟩
    intro y b
    dsimp only
    by_cases e : y = Q[i].1.id
    · rw [if_pos e]
      constructor
      · intro h; cases h
      · rintro ⟨x, hx, h1, h2⟩
        rw [List.map_cons, List.nodup_cons] at hids
        exact absurd (List.mem_map.2 ⟨x.1, List.mem_map.2 ⟨x, hx, rfl⟩, by rw [h1, e]⟩) hids.1
    · rw [if_neg e, hF y b]
      constructor
      · rintro ⟨x, hx, h1, h2⟩
        have := r4.mem_iff.2 hx
        rcases List.mem_append.1 this with hh | hh
        · exact ⟨x, hh, h1, h2⟩
        · simp at hh
          rw [hh] at h1
          exact absurd h1.symm e
      · rintro ⟨x, hx, h1, h2⟩
        exact ⟨x, r4.mem_iff.1 (by simp [hx]), h1, h2⟩
  · intro y hy
    have := h.low y hy
    have := r6.size
    have := hc.size
    omega
  · refine (r6.mono ?_).trans (hc.mono ?_)
    · intro y hy
      rcases List.mem_cons.1 hy with e | e
      · simp [e]
      · exact List.mem_cons_of_mem _ (hbF y e)
    · intro y hy
      simp at hy
      rw [hy]
      exact List.mem_cons_of_mem _ hmF

set_option maxRecDepth 100000 in
set_option maxHeartbeats 2000000 in
theorem drop_some (tb : Nat) (F : List Nat) (L : List It) (p : Nat) (x : It) (w : World) (h : TimersAt w tb F L p) (hx : x ∈ L) (hp : p ≤ 1000000) :
    Calls Try.prog 64 #[.pointer (some ⟨tb, 0, none⟩), .int .i64 x.id] w fun e w' => e = .returned (.bool true) ∧ TimersAt w' tb F (delL L x.id) p ∧ Chg (tb :: F) w w' := by
  obtain ⟨mv, a, n, c, Q, h⟩ := h
  obtain ⟨i, hi, hQ⟩ := h.of_mem hx
  have hidI := h.ok.idI x hx
  have hl := h.map.look hidI (List.getElem_mem hi) (by rw [hQ])
  have k3 := (h.qs.item hi).c3
  obtain ⟨g, hg⟩ : ∃ g, g = Q[i].2 := ⟨_, rfl⟩
  rw [← hg] at hl k3
  obtain ⟨hn, hnc, hqq⟩ := h.qs
  have hnp : n ≤ p := by rw [h.len]; exact h.ok.len
  obtain ⟨m, hm⟩ : ∃ m, n = m + 1 := ⟨n - 1, by omega⟩
  rcases hqq with ⟨_, e, _⟩ | ⟨qb, rfl, hcm, hq, hbF⟩
  · omega
  rcases h.map with ⟨_, e⟩ | ⟨mb, k, f, rfl, hmap, hkp, hmF, hF⟩
  · rw [e] at hi; simp at hi
  have hne : tb ∉ blksQ qb Q := fun hh => h.out (hbF tb hh)
  have hmQ := hmap.notQ hq
  have hmt := hmap.notT h.head
  have c0 := h.head.c0
  have HT := Lib.hid (And.intro h (And.intro hmap (And.intro hF (And.intro hbF (And.intro hm hn)))))
  have HQ := Lib.hid hQ
  clear h hmap hF hbF hg hQ hx
  rw [← HQ.out]
  rw [← HQ.out] at hl hidI
  obtain ⟨id, hid⟩ : ∃ id, id = Q[i].1.id := ⟨_, rfl⟩
  rw [← hid] at hl hidI ⊢
  have HID := Lib.hid hid
  clear hid hm hn
  go_enter Try.func64, Try.ntmps64
  go_wp2_with fail
  have hqd : QAt w.drew qb c Q := hq.drewN 1
  go_region_with (go_at_call 79; go_must (refine (hremove_any tb qb c n m p i (.map (some mb)) Q _ hqd hne HT.out.1.head HT.out.1.heap (Lib.hid HT.out.2.2.2.2.2) HT.out.2.2.2.2.1 hnc (by omega) (by have := HT.out.2.2.2.2.2; omega)).mono ?_; rintro e w1 ⟨⟨v, rfl⟩, hrem⟩))
  all_goals
    have hrem' : RemPost w tb qb c m p (.map (some mb)) (Q.getD i (itZ, 0)) Q w1 := by
      obtain ⟨R, r1, r2, r3, r4, r5, r6⟩ := hrem
      exact ⟨R, r1, r2, r3, r4, r5, r6.undrew⟩
    have hmap1 : MapAt w1 mb k f := by
      obtain ⟨R, r1, r2, r3, r4, r5, r6⟩ := hrem'
      exact HT.out.2.1.chg r6 (by simp only [List.mem_cons, not_or]; exact ⟨hmt, hmQ⟩)
    have c01 : w1.cell? ⟨tb, 0, none⟩ = some (.map (some mb)) := by
      obtain ⟨R, r1, r2, r3, r4, r5, r6⟩ := hrem'
      exact r1.c0
    have HR := Lib.hid hrem'
    clear hrem hrem' hl k3 c0
    go_wp2_with (at_delete; go_must (refine wpList_del rfl _ _ rfl hmap1 id hidI rfl rfl ?_; intro w2 hm2 hc2; have HP : Hid (TimersAt w2 tb F (delL L id) p ∧ Chg (tb :: F) w w2) := Lib.hid (by rw [HID.out] at hm2 ⊢; exact drop_post HT.out.1 hi hkp hmF HT.out.2.2.1 HT.out.2.2.2.2.1 HR.out hm2 hc2 hmQ hmt HT.out.2.2.2.1 hcm); clear hm2 hc2))
    go_ret
    exact ⟨rfl, HP.out.1, HP.out.2⟩

end Go.Proofs.Ytgdnfempcjlipaa.Ti

namespace Go.Proofs.Ytgdnfempcjlipaa.Ti
open Go.RowKit

set_option maxRecDepth 100000 in
theorem QS.tight {w : World} {a : Option Addr} {n c : Nat} {Q : List (It × Nat)} {F : List Nat} (h : QS w a n c Q F) : ∃ Fq, QS w a n c Q Fq ∧ (∀ y ∈ Fq, y ∈ F) ∧ ∀ mb k f, MapAt w mb k f → mb ∉ Fq := by
  obtain ⟨h1, h2, h3⟩ := h
  rcases h3 with h3 | ⟨qb, h4, h5, h6, h7⟩
  · exact ⟨[], ⟨h1, h2, .inl h3⟩, by simp, by simp⟩
  · exact ⟨blksQ qb Q, ⟨h1, h2, .inr ⟨qb, h4, h5, h6, fun _ h => h⟩⟩, h7, fun mb k f hm => hm.notQ h6⟩
/-- What Put leaves behind. -/
def PutAt (w : World) (tb : Nat) (F : List Nat) (L : List It) (p : Nat) (w' : World) : Prop :=
  ∃ F', TimersAt w' tb F' L p ∧ (∀ y ∈ F', y ∈ F ∨ w.heap.size ≤ y) ∧ Chg (tb :: F) w w'
set_option maxRecDepth 100000 in
theorem put_new_post {w w2 w4 w5 : World} {tb mb g n c p k : Nat} {a : Option Addr} {Q : List (It × Nat)} {L : List It} {F Fq : List Nat} {f : Int → Option Nat} {id due : Int}
    (hn : n = Q.length) (hFq : ∀ y ∈ Fq, y ∈ F) (perm : (itsQ Q).Perm L) (ok : OkL L p) (abs : ∀ x ∈ L, x.id ≠ id) (h1 : InI id) (h2 : InI due) (hf : FQ f Q) (hk : k ≤ p)
    (hmF : mb ∈ F ∨ w.heap.size ≤ mb) (hmq : mb ∉ Fq) (hmt : mb ≠ tb) (hmg : mb ≠ g) (hg : w.heap.size ≤ g) (hc : Chg (tb :: F) w w2) (hc4 : Chg [mb] w2 w4)
    (hm : MapAt w4 mb (k + 1) (fun x => if x = id then some g else f x)) (hp : PutPost w4 tb g n (p + 1) (.map (some mb)) ⟨id, due, p + 1⟩ Q Fq w5) (htF : tb ∉ F) (hlow : tb < w.heap.size) (low : ∀ y ∈ F, y < w.heap.size) : PutAt w tb F (putL L id due (p + 1)) (p + 1) w5 := by
  obtain ⟨qb, cap, R, k1, k2, k3, k4, k5, k6, k7, k8⟩ := hp
  have s1 := hc.size
  have s2 := hc4.size
  have s3 := k8.size
  have hRl : n + 1 = R.length := by rw [k5.length_eq, List.length_append, ← hn]; rfl
  have hmS : mb ∉ tb :: g :: Fq := by simp only [List.mem_cons, not_or]; exact ⟨hmt, hmg, hmq⟩
  have hext : ∀ y ∈ blksQ qb R, y ∈ F ∨ w.heap.size ≤ y := by
    intro y hy
    rcases k7 y hy with e | e
    · rcases List.mem_cons.1 e with e | e
      · right; omega
      · exact .inl (hFq y e)
    · right; omega
  have hmP : MapAt w5 mb (k + 1) (fun x => if x = id then some g else f x) := hm.chg k8 hmS
  refine ⟨mb :: blksQ qb R, ⟨.map (some mb), some ⟨qb, 0, none⟩, n + 1, cap, R, ⟨k1, ⟨hRl, k2, .inr ⟨qb, rfl, k3, k4, fun y hy => List.mem_cons_of_mem _ hy⟩⟩, k6, ?_, ?_, ?_, ?_, ok.put h1 h2⟩⟩, ?_, ?_⟩
  · have e := (k5.map (·.1))
    rw [List.map_append] at e
    unfold putL
    rw [delL_absent abs]
    exact e.trans (perm.append_right _)
  · refine .inr ⟨mb, k + 1, _, rfl, hmP, by omega, by simp, FQ.perm ?_ k5⟩
    intro y b
    dsimp only
    by_cases e : y = id
    · rw [if_pos e]
      constructor
      · intro h
        injection h with h
        exact ⟨(⟨id, due, p + 1⟩, g), by simp, e.symm, h⟩
      · rintro ⟨x, hx, h1, h2⟩
        rcases List.mem_append.1 hx with hh | hh
        · exact absurd (h1.trans e) (abs _ (perm.mem_iff.1 (List.mem_map.2 ⟨x, hh, rfl⟩)))
        · simp at hh
          rw [← h2, hh]
    · rw [if_neg e, hf y b]
      constructor
      · rintro ⟨x, hx, h1, h2⟩
        exact ⟨x, by simp [hx], h1, h2⟩
      · rintro ⟨x, hx, h1, h2⟩
        rcases List.mem_append.1 hx with hh | hh
        · exact ⟨x, hh, h1, h2⟩
        · simp at hh
          rw [hh] at h1
          exact absurd h1.symm e
  · simp only [List.mem_cons, not_or]
    refine ⟨Ne.symm hmt, fun hh => ?_⟩
    rcases hext tb hh with e | e
    · exact htF e
    · omega
  · intro y hy
    rcases List.mem_cons.1 hy with e | e
    · rw [e]; exact hmP.lt
    · rcases List.mem_cons.1 e with e | e
      · rw [e]; exact k4.lt
      · obtain ⟨x, hx, rfl⟩ := List.mem_map.1 e
        obtain ⟨i, hi, rfl⟩ := List.getElem_of_mem hx
        exact (k4.items i hi).lt
  · intro y hy
    rcases List.mem_cons.1 hy with e | e
    · rw [e]; exact hmF
    · exact hext y e
  · refine (hc.trans_new hc4 ?_).trans_new k8 ?_
    · intro y hy
      simp at hy
      rw [hy]
      rcases hmF with e | e
      · exact .inl (List.mem_cons_of_mem _ e)
      · exact .inr e
    · intro y hy
      rcases List.mem_cons.1 hy with e | e
      · left; simp [e]
      · rcases List.mem_cons.1 e with e | e
        · right; omega
        · exact .inl (List.mem_cons_of_mem _ (hFq y e))

set_option maxRecDepth 100000 in
theorem QAt.reset {w : World} {tb qb cap i : Nat} {Q : List (It × Nat)} (h : QAt w qb cap Q) (hi : i < Q.length) (hne : tb ∉ blksQ qb Q) (v : Value) (due : Int) (q : Nat) :
    QAt (((w.setCell ⟨tb, 2, none⟩ v).setCell ⟨Q[i].2, 1, none⟩ (.int .i64 due)).setCell ⟨Q[i].2, 2, none⟩ (.int .u64 q)) qb cap (Q.set i (⟨Q[i].1.id, due, q⟩, Q[i].2)) := by
  have hqt : qb ≠ tb := fun e => hne (by simp [blksQ, e])
  have hiq := h.ne i hi
  have hmm : (Q.set i (⟨Q[i].1.id, due, q⟩, Q[i].2)).map (·.2) = Q.map (·.2) := by
    rw [List.map_set]
    apply List.ext_getElem
    · simp
    · intro k hk1 hk2
      rw [List.getElem_set]
      split
      · rename_i e; subst e; simp
      · rfl
  obtain ⟨rest, hr, hrow⟩ := h.row
  refine ⟨⟨rest, by simpa using hr, ?_⟩, ?_, by rw [hmm]; exact h.nodup⟩
  · rw [heap_set_other _ (Ne.symm hiq), heap_set_other _ (Ne.symm hiq), heap_set_other _ hqt, hrow]
    have e1 : ∀ P : List (It × Nat), P.map (fun x => Value.pointer (some ⟨x.2, 0, none⟩)) = (P.map (·.2)).map (fun b => Value.pointer (some ⟨b, 0, none⟩)) := by intro P; simp
    rw [e1, e1, hmm]
  · intro k hk
    have hk' : k < Q.length := by simpa using hk
    rw [List.getElem_set]
    split
    · rename_i e
      subst e
      have h0 := h.items i hi
      have n1 : Q[i].2 ≠ tb := fun e => hne (by simp only [blksQ, List.mem_cons, List.mem_map]; exact .inr ⟨Q[i], List.getElem_mem _, e⟩)
      have h1 : ItemAt (w.setCell ⟨tb, 2, none⟩ v) Q[i].2 Q[i].1 i := by unfold ItemAt at h0 ⊢; rw [heap_set_other _ n1]; exact h0
      unfold ItemAt at h1 ⊢
      rw [heap_set (heap_set h1 _)]
      rfl
    · rename_i e
      have h0 := h.items k hk'
      have n1 : Q[k].2 ≠ tb := fun e => hne (by simp only [blksQ, List.mem_cons, List.mem_map]; exact .inr ⟨Q[k], List.getElem_mem _, e⟩)
      have n2 : Q[k].2 ≠ Q[i].2 := h.apart hk' hi (Ne.symm e)
      unfold ItemAt at h0 ⊢
      rw [heap_set_other _ n2, heap_set_other _ n2, heap_set_other _ n1]
      exact h0

set_option maxRecDepth 100000 in
theorem put_old_post {w w2 w3 : World} {tb : Nat} {F : List Nat} {L : List It} {p qb n c i : Nat} {mv : Value} {Q : List (It × Nat)} {due : Int} (h : TI w tb F L p mv (some ⟨qb, 0, none⟩) n c Q) (hi : i < Q.length) (hq : QAt w qb c Q) (hbF : ∀ y ∈ blksQ qb Q, y ∈ F) (hcm : c ≤ maxLen) (h2 : InI due)
    (hh : HeadAt w2 tb mv (.slice (some ⟨qb, 0, none⟩) n c) (p + 1)) (hc : Chg [tb, Q[i].2] w w2) (hp : HeapPost w2 tb qb c n (Q.set i (⟨Q[i].1.id, due, p + 1⟩, Q[i].2)) w3) : PutAt w tb F (putL L Q[i].1.id due (p + 1)) (p + 1) w3 := by
  obtain ⟨R, r1, r2, r3, r4, r5⟩ := hp
  have hmm : (Q.set i (⟨Q[i].1.id, due, p + 1⟩, Q[i].2)).map (·.2) = Q.map (·.2) := by
    rw [List.map_set]
    apply List.ext_getElem
    · simp
    · intro k hk1 hk2
      rw [List.getElem_set]
      split
      · rename_i e; subst e; simp
      · rfl
  have hbb : blksQ qb (Q.set i (⟨Q[i].1.id, due, p + 1⟩, Q[i].2)) = blksQ qb Q := by unfold blksQ; rw [hmm]
  rw [hbb] at r5
  have hsub : ∀ y ∈ blksQ qb R, y ∈ blksQ qb Q := by
    intro y hy
    have := (blks_perm r2 y).1 hy
    rwa [hbb] at this
  have hne : tb ∉ blksQ qb Q := fun hh => h.out (hbF tb hh)
  have hlen : R.length = Q.length := by rw [r2.length_eq]; simp
  have hgF : Q[i].2 ∈ F := hbF _ (by simp only [blksQ, List.mem_cons, List.mem_map]; exact .inr ⟨Q[i], List.getElem_mem _, rfl⟩)
  have s1 := hc.size
  have s2 := r5.size
  refine ⟨F, ⟨mv, some ⟨qb, 0, none⟩, n, c, R, ⟨hh.chg r5 hne, ⟨by rw [hlen]; exact h.qs.1, h.qs.2.1, .inr ⟨qb, rfl, hcm, r1.q, fun y hy => hbF y (hsub y hy)⟩⟩, r3, ?_, ?_, h.out, fun y hy => by have := h.low y hy; omega, h.ok.put ?_ h2⟩⟩, fun y hy => .inl hy, ?_⟩
  · have e1 : (itsQ R).Perm ((itsQ Q).set i ⟨Q[i].1.id, due, p + 1⟩) := by
      have := r2.map (·.1)
      rw [List.map_set] at this
      exact this
    have hil : i < (itsQ Q).length := by simpa [itsQ] using hi
    have e2 := perm_set hil h.perm h.ok.ids ⟨Q[i].1.id, due, p + 1⟩
    have e3 : (itsQ Q)[i] = Q[i].1 := by simp [itsQ]
    rw [e3] at e2
    exact e1.trans e2
  · rcases h.map with ⟨_, e⟩ | ⟨mb, k, f, hmv, hmap, hkp, hmF, hF⟩
    · rw [e] at hi; simp at hi
    · have hmQ := hmap.notQ hq
      have hmt := hmap.notT h.head
      refine .inr ⟨mb, k, f, hmv, (hmap.chg hc ?_).chg r5 hmQ, by omega, hmF, (hF.set hi (y := (⟨Q[i].1.id, due, p + 1⟩, Q[i].2)) rfl rfl).perm r2⟩
      simp only [List.mem_cons, List.mem_nil_iff, or_false, not_or]
      exact ⟨hmt, fun e => hmQ (by simp only [blksQ, List.mem_cons, List.mem_map]; exact .inr ⟨Q[i], List.getElem_mem _, e.symm⟩)⟩
  · exact h.ok.idI _ (h.mem (List.getElem_mem hi))
  · refine (hc.mono ?_).trans (r5.mono fun y hy => List.mem_cons_of_mem _ (hbF y hy))
    intro y hy
    simp only [List.mem_cons, List.mem_nil_iff, or_false] at hy
    rcases hy with e | e
    · simp [e]
    · rw [e]; exact List.mem_cons_of_mem _ hgF

end Go.Proofs.Ytgdnfempcjlipaa.Ti

namespace Go.Proofs.Ytgdnfempcjlipaa.Ti
open Go.RowKit

set_option maxRecDepth 100000 in
theorem put_nil (id due : Int) (w : World) :
    Calls Try.prog 34 #[.pointer none, .int .i64 id, .int .i64 due] w fun e w' => e = .returned (.int .i64 2) ∧ w = w' := by
  go_enter Try.func34, Try.ntmps34
  go_wp2
  go_ret
  exact ⟨rfl, rfl⟩

set_option maxRecDepth 100000 in
set_option maxHeartbeats 4000000 in
theorem put_old (tb : Nat) (F : List Nat) (L : List It) (p : Nat) (x : It) (due : Int) (w : World) (h : TimersAt w tb F L p) (hx : x ∈ L) (hdue : InI due) (hp : p ≤ 1000000) :
    Calls Try.prog 34 #[.pointer (some ⟨tb, 0, none⟩), .int .i64 x.id, .int .i64 due] w fun e w' => e = .returned (.int .i64 0) ∧ PutAt w tb F (putL L x.id due (p + 1)) (p + 1) w' := by
  obtain ⟨mv, a, n, c, Q, h⟩ := h
  obtain ⟨i, hi, hQ⟩ := h.of_mem hx
  have hidI := h.ok.idI x hx
  obtain ⟨hn, hnc, hqq⟩ := h.qs
  have hnp : n ≤ p := by rw [h.len]; exact h.ok.len
  rcases hqq with ⟨_, e, _⟩ | ⟨qb, rfl, hcm, hq, hbF⟩
  · omega
  have hne : tb ∉ blksQ qb Q := fun hh => h.out (hbF tb hh)
  have hgm : Q[i].2 ∈ blksQ qb Q := by simp only [blksQ, List.mem_cons, List.mem_map]; exact .inr ⟨Q[i], List.getElem_mem _, rfl⟩
  have hh1 : HeadAt (w.setCell ⟨tb, 2, none⟩ (.int .u64 ((p : Int) + 1))) tb mv (.slice (some ⟨qb, 0, none⟩) n c) (p + 1) := h.head.set2 (p + 1)
  have hc1 : Chg [tb] w (w.setCell ⟨tb, 2, none⟩ (.int .u64 ((p : Int) + 1))) := Chg.set1 _ _ _ _
  have hm1 : MapQ (w.setCell ⟨tb, 2, none⟩ (.int .u64 ((p : Int) + 1))) mv p F Q := h.map.chg hc1 fun mb _ _ _ hm => by simp; intro e; exact h.out (e ▸ hm)
  have hl := hm1.look hidI (List.getElem_mem hi) (by rw [hQ])
  have hq2 := hq.reset hi hne (.int .u64 ((p : Int) + 1)) due (p + 1)
  have htg : tb ≠ Q[i].2 := fun e => hne (e ▸ hgm)
  have hh2 : HeadAt (((w.setCell ⟨tb, 2, none⟩ (.int .u64 ((p : Int) + 1))).setCell ⟨Q[i].2, 1, none⟩ (.int .i64 due)).setCell ⟨Q[i].2, 2, none⟩ (.int .u64 ((p + 1 : Nat) : Int))) tb mv (.slice (some ⟨qb, 0, none⟩) n c) (p + 1) := by
    unfold HeadAt at hh1 ⊢
    rw [heap_set_other _ htg, heap_set_other _ htg]
    exact hh1
  have hc2 : Chg [tb, Q[i].2] w (((w.setCell ⟨tb, 2, none⟩ (.int .u64 ((p : Int) + 1))).setCell ⟨Q[i].2, 1, none⟩ (.int .i64 due)).setCell ⟨Q[i].2, 2, none⟩ (.int .u64 ((p + 1 : Nat) : Int))) := (((Chg.refl _ w).setCell (.inl (by simp)) _).setCell (.inl (by simp)) _).setCell (.inl (by simp)) _
  have hit := h.qs.item hi
  have k1 := hit.c1
  have k2 := hit.c2
  have k3 := hit.c3
  have f1 := hit.fr 1
  have f2 := hit.fr 2
  have c0 := h.head.c0
  have c1 := h.head.c1
  have c2 := h.head.c2
  have f0 := h.head.fr 2
  have HD : Hid (DownW (itsQ (Q.set i (⟨Q[i].1.id, due, p + 1⟩, Q[i].2))) n i) := Lib.hid (by
    refine heap_changed h.heap ?_ (by omega)
    intro k hk
    unfold itsQ
    rw [List.map_set]
    simp only [List.getD_eq_getElem?_getD, List.getElem?_set]
    rw [if_neg (Ne.symm hk)])
  have HOLD : Hid (∀ w3, HeapPost (((w.setCell ⟨tb, 2, none⟩ (.int .u64 ((p : Int) + 1))).setCell ⟨Q[i].2, 1, none⟩ (.int .i64 due)).setCell ⟨Q[i].2, 2, none⟩ (.int .u64 ((p + 1 : Nat) : Int))) tb qb c n (Q.set i (⟨Q[i].1.id, due, p + 1⟩, Q[i].2)) w3 → PutAt w tb F (putL L Q[i].1.id due (p + 1)) (p + 1) w3) := Lib.hid fun w3 hp => put_old_post h hi hq hbF hcm hdue hh2 hc2 hp
  obtain ⟨Q', hQ'⟩ : ∃ Q', Q' = Q.set i (⟨Q[i].1.id, due, p + 1⟩, Q[i].2) := ⟨_, rfl⟩
  have HLQ : Hid (n = Q'.length) := Lib.hid (by rw [hQ', List.length_set]; exact hn)
  have hne2 : tb ∉ blksQ qb Q' := by
    intro hx
    apply hne
    rw [hQ'] at hx
    rcases List.mem_cons.1 hx with e | e
    · simp [blksQ, e]
    · rw [List.map_set] at e
      rcases List.mem_or_eq_of_mem_set e with e | e
      · exact List.mem_cons_of_mem _ e
      · rw [e]; exact hgm
  rw [← hQ'] at hq2 HD HOLD
  have hcell2 := hh2.c1
  rw [← hQ]
  have HHQ : Hid (QH (((w.setCell ⟨tb, 2, none⟩ (.int .u64 ((p : Int) + 1))).setCell ⟨Q[i].2, 1, none⟩ (.int .i64 due)).setCell ⟨Q[i].2, 2, none⟩ (.int .u64 ((p + 1 : Nat) : Int))) tb qb c Q') := Lib.hid ⟨by rw [← HLQ.out]; exact hcell2, hq2, hne2⟩
  have hin : i < n := by omega
  rw [← hQ] at hl
  obtain ⟨g, hg⟩ : ∃ g, g = Q[i].2 := ⟨_, rfl⟩
  obtain ⟨id, hid⟩ : ∃ id, id = Q[i].1.id := ⟨_, rfl⟩
  rw [← hg] at hl k1 k2 k3 f1 f2 HHQ HOLD htg
  rw [← hid] at hl HOLD ⊢
  have hgt : g ≠ tb := Ne.symm htg
  have ep : ((p + 1 : Nat) : Int) = (p : Int) + 1 := by omega
  rw [ep] at HHQ HOLD
  clear h hx hQ hit hg hid hQ' hq2 hh1 hh2 hc1 hc2 hm1 hq hne hne2 hcell2 hgm hbF hn ep
  go_enter Try.func34, Try.ntmps34
  go_wp2_with fail
  go_region_with (go_at_call 58; go_must (refine (fix_any tb qb c i n Q' _ (HHQ.out.drewN 1) HLQ hin HD.out (by omega)).mono ?_; rintro e w3 ⟨rfl, hpost⟩))
  all_goals
    have HP : Hid (PutAt w tb F (putL L id due (p + 1)) (p + 1) w3) := Lib.hid (HOLD.out w3 (by
      obtain ⟨R, r1, r2, r3, r4, r5⟩ := hpost
      exact ⟨R, r1, r2, r3, r4, r5.undrew⟩))
    clear hpost
    go_wp2
    go_ret
    exact ⟨rfl, HP.out⟩

end Go.Proofs.Ytgdnfempcjlipaa.Ti

namespace Go.Proofs.Ytgdnfempcjlipaa.Ti
open Go.RowKit

set_option maxRecDepth 100000 in
theorem put_new_call {w w2 : World} {tb mb g n c p k : Nat} {mv : Value} {a : Option Addr} {Q : List (It × Nat)} {L : List It} {F : List Nat} {f : Int → Option Nat} {id due : Int}
    (h : TI w tb F L p mv a n c Q) (abs : ∀ x ∈ L, x.id ≠ id) (h1 : InI id) (h2 : InI due) (hp : p ≤ 1000000) (hf : FQ f Q) (hk : k ≤ p) (hmF : mb ∈ F ∨ w.heap.size ≤ mb)
    (hh2 : HeadAt w2 tb (.map (some mb)) (.slice a n c) (p + 1)) (hc : Chg [tb] w w2) (hg : w.heap.size ≤ g) (hi : ItemAt w2 g ⟨id, due, p + 1⟩ 0) (hm2 : MapAt w2 mb k f)
    (w4 : World) (hm : MapAt w4 mb (k + 1) (fun x => if x = id then some g else f x)) (hc4 : Chg [mb] w2 w4) :
    Calls Try.prog 59 #[.iface 119 (.pointer (some ⟨tb, 1, none⟩)), .iface 114 (.pointer (some ⟨g, 0, none⟩))] w4 fun e w' => e = .returned (.tuple #[]) ∧ PutAt w tb F (putL L id due (p + 1)) (p + 1) w' := by
  have hlow := h.head.lt
  have hq2 : QS w2 a n c Q F := h.qs.chg hc fun y hy => by simp; intro e; exact h.out (e ▸ hy)
  obtain ⟨Fq, q1, q2, q3⟩ := hq2.tight
  have hmq := q3 mb k f hm2
  have hmt := hm2.notT hh2
  have hmg : mb ≠ g := fun e => by
    unfold ItemAt at hi
    rw [← e] at hi
    exact hm2.not_cells _ _ _ hi
  have hgF : g ∉ Fq := fun hx => by have := h.low g (q2 g hx); omega
  have htF : tb ∉ Fq := fun hx => h.out (q2 tb hx)
  have htg : tb ≠ g := by omega
  have hnp : n ≤ p := by rw [h.len]; exact h.ok.len
  have q4 : QS w4 a n c Q Fq := q1.chg hc4 fun y hy => by simp; intro e; exact hmq (e ▸ hy)
  have hh4 : HeadAt w4 tb (.map (some mb)) (.slice a n c) (p + 1) := hh2.chg hc4 (by simp; exact Ne.symm hmt)
  have hi4 : ItemAt w4 g ⟨id, due, p + 1⟩ 0 := hi.chg hc4 (by simp; exact Ne.symm hmg)
  refine (hpush_any tb g n c (p + 1) 0 (.map (some mb)) a ⟨id, due, p + 1⟩ Q Fq w4 q4 h.heap hh4 hi4 htF hgF htg (by omega)).mono ?_
  rintro e w5 ⟨rfl, hpp⟩
  exact ⟨rfl, put_new_post (w2 := w2) (a := a) (c := c) h.qs.1 q2 h.perm h.ok abs h1 h2 hf hk hmF hmq hmt hmg hg (hc.mono (by simp)) hc4 hm hpp h.out hlow h.low⟩

set_option maxRecDepth 100000 in
theorem mk_map (w : World) : (Instr.makeMap 109 none).run Try.prog w = .ok (.map (some w.heap.size)) (w.alloc (.map #[] 0)) := by kernel_rfl
set_option maxRecDepth 100000 in
theorem eq_nomap (w : World) : (binOp .eql 109 (.map none) (.map none)).run Try.prog w = .ok (.bool true) w := by kernel_rfl
set_option maxRecDepth 100000 in
theorem eq_somemap (mb : Nat) (w : World) : (binOp .eql 109 (.map (some mb)) (.map none)).run Try.prog w = .ok (.bool false) w := by kernel_rfl

set_option maxRecDepth 100000 in
set_option maxHeartbeats 4000000 in
theorem put_new (tb : Nat) (F : List Nat) (L : List It) (p : Nat) (id due : Int) (w : World) (h : TimersAt w tb F L p) (abs : ∀ x ∈ L, x.id ≠ id) (hid : InI id) (hdue : InI due) (hp : p ≤ 1000000) :
    Calls Try.prog 34 #[.pointer (some ⟨tb, 0, none⟩), .int .i64 id, .int .i64 due] w fun e w' => e = .returned (.int .i64 0) ∧ PutAt w tb F (putL L id due (p + 1)) (p + 1) w' := by
  obtain ⟨mv, a, n, c, Q, h⟩ := h
  have habs : ∀ x ∈ Q, x.1.id ≠ id := fun x hx => abs _ (h.mem hx)
  have hlt := h.head.lt
  have hlt1 : tb ≠ w.heap.size := by omega
  have hlt2 : tb ≠ w.heap.size + 1 := by omega
  have hh1 : HeadAt (w.setCell ⟨tb, 2, none⟩ (.int .u64 ((p : Int) + 1))) tb mv (.slice a n c) (p + 1) := h.head.set2 (p + 1)
  have hc1 : Chg [tb] w (w.setCell ⟨tb, 2, none⟩ (.int .u64 ((p : Int) + 1))) := Chg.set1 _ _ _ _
  have hs1 : (w.setCell ⟨tb, 2, none⟩ (.int .u64 ((p : Int) + 1))).heap.size = w.heap.size := by simp
  have hm1 : MapQ (w.setCell ⟨tb, 2, none⟩ (.int .u64 ((p : Int) + 1))) mv p F Q := h.map.chg hc1 fun mb _ _ _ hm => by simp; intro e; exact h.out (e ▸ hm)
  have hl := hm1.look_none hid habs
  have c0 := h.head.c0
  have c2 := h.head.c2
  have f0 := h.head.fr 0
  have f2 := h.head.fr 2
  rcases hm1 with ⟨rfl, hQ⟩ | ⟨mb, k, f, rfl, hm1, hkp, hmF, hF⟩
  · obtain ⟨w2, hw2⟩ : ∃ w2, w2 = (((w.setCell ⟨tb, 2, none⟩ (.int .u64 ((p : Int) + 1))).setCell ⟨tb, 0, none⟩ (.map (some w.heap.size))).alloc (.map #[] 0)).alloc (.cells #[.int .i64 id, .int .i64 due, .int .u64 ((p : Int) + 1), .int .i64 0] 117) := ⟨_, rfl⟩
    have hm2 : MapAt w2 w.heap.size 0 (fun _ => none) := by
      rw [hw2]
      have e0 := map_new ((w.setCell ⟨tb, 2, none⟩ (.int .u64 ((p : Int) + 1))).setCell ⟨tb, 0, none⟩ (.map (some w.heap.size)))
      have e1 : ((w.setCell ⟨tb, 2, none⟩ (.int .u64 ((p : Int) + 1))).setCell ⟨tb, 0, none⟩ (.map (some w.heap.size))).heap.size = w.heap.size := by simp
      rw [e1] at e0
      exact e0.chg ((Chg.refl [] _).alloc _) (by simp)
    have hh2 : HeadAt w2 tb (.map (some w.heap.size)) (.slice a n c) (p + 1) := by
      rw [hw2]
      exact heap_old (heap_old (hh1.set0 _))
    have hi2 : ItemAt w2 (w.heap.size + 1) ⟨id, due, p + 1⟩ 0 := by
      rw [hw2]
      exact heap_new' _ _ _ (by simp)
    have hc2 : Chg [tb] w w2 := by
      rw [hw2]
      exact ((hc1.setCell (.inl (by simp)) _).alloc _).alloc _
    have hF0 : FQ (fun _ => none) Q := by
      rw [hQ]
      intro k b
      constructor
      · intro h; cases h
      · rintro ⟨x, hx, _⟩; simp at hx
    have NEW := Lib.hid (put_new_call (k := 0) (g := w.heap.size + 1) h abs hid hdue hp hF0 (by omega) (.inr (Nat.le_refl _)) hh2 hc2 (by omega) hi2 hm2)
    have heq := eq_nomap (w.setCell ⟨tb, 2, none⟩ (.int .u64 ((p : Int) + 1)))
    have hmk := mk_map (w.setCell ⟨tb, 2, none⟩ (.int .u64 ((p : Int) + 1)))
    rw [hs1] at hmk
    have c02 := hh2.c0
    have HM2 := Lib.hid hm2
    have HW2 := Lib.hid hw2
    rw [hw2] at HM2
    clear h abs habs hh1 hc1 hc2 hh2 hi2 hm2 hF0 hQ hw2 c02
    go_enter Try.func34, Try.ntmps34
    go_wp2_with (first | (at_mapUpdate; go_must (refine wpList_put rfl _ _ _ rfl HM2.out id hid (w.heap.size + 1) (by omega) rfl rfl rfl ?_; intro w4 hm4 hc4; rw [← HW2.out] at hc4; have N4 := NEW.out w4 hm4 hc4; clear hm4 hc4)))
    refine N4.mono ?_
    rintro e w5 ⟨rfl, hpp⟩
    have HP := Lib.hid hpp
    clear hpp N4
    go_wp2
    go_ret
    exact ⟨rfl, HP.out⟩
  · obtain ⟨w2, hw2⟩ : ∃ w2, w2 = (w.setCell ⟨tb, 2, none⟩ (.int .u64 ((p : Int) + 1))).alloc (.cells #[.int .i64 id, .int .i64 due, .int .u64 ((p : Int) + 1), .int .i64 0] 117) := ⟨_, rfl⟩
    have hm2 : MapAt w2 mb k f := by
      rw [hw2]
      exact hm1.chg ((Chg.refl [] _).alloc _) (by simp)
    have hh2 : HeadAt w2 tb (.map (some mb)) (.slice a n c) (p + 1) := by
      rw [hw2]
      exact heap_old hh1
    have hi2 : ItemAt w2 w.heap.size ⟨id, due, p + 1⟩ 0 := by
      rw [hw2]
      exact heap_new' _ _ _ (by simp)
    have hc2 : Chg [tb] w w2 := by
      rw [hw2]
      exact hc1.alloc _
    have NEW := Lib.hid (put_new_call (g := w.heap.size) h abs hid hdue hp hF hkp (.inl hmF) hh2 hc2 (by omega) hi2 hm2)
    have HM2 := Lib.hid hm2
    have HW2 := Lib.hid hw2
    rw [hw2] at HM2
    have heq := eq_somemap mb (w.setCell ⟨tb, 2, none⟩ (.int .u64 ((p : Int) + 1)))
    clear h abs habs hh1 hc1 hc2 hh2 hi2 hm2 hF hm1 hw2
    go_enter Try.func34, Try.ntmps34
    go_wp2_with (first | (at_mapUpdate; go_must (refine wpList_put rfl _ _ _ rfl HM2.out id hid w.heap.size (by omega) rfl rfl rfl ?_; intro w4 hm4 hc4; rw [← HW2.out] at hc4; have N4 := NEW.out w4 hm4 hc4; clear hm4 hc4)))
    refine N4.mono ?_
    rintro e w5 ⟨rfl, hpp⟩
    have HP := Lib.hid hpp
    clear hpp N4
    go_wp2
    go_ret
    exact ⟨rfl, HP.out⟩

set_option maxRecDepth 100000 in
/-- Put. -/
theorem put_any (tb : Nat) (F : List Nat) (L : List It) (p : Nat) (id due : Int) (w : World) (h : TimersAt w tb F L p) (hid : InI id) (hdue : InI due) (hp : p ≤ 1000000) :
    Calls Try.prog 34 #[.pointer (some ⟨tb, 0, none⟩), .int .i64 id, .int .i64 due] w fun e w' => e = .returned (.int .i64 0) ∧ PutAt w tb F (putL L id due (p + 1)) (p + 1) w' := by
  by_cases hx : ∃ x ∈ L, x.id = id
  · obtain ⟨x, hx, rfl⟩ := hx
    exact put_old tb F L p x due w h hx hdue hp
  · exact put_new tb F L p id due w h (fun x hxL e => hx ⟨x, hxL, e⟩) hid hdue hp

end Go.Proofs.Ytgdnfempcjlipaa.Ti
