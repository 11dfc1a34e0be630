/- Timers: the walk of Put, of what was not there. -/
import Derived.Test.YtlkhaookdmgbnaaTimI
namespace Go.Proofs.Ytlkhaookdmgbnaa
open Go.RowKit

theorem put_new_call {w w2 : World} {tb mb g n c p k : Nat} {mv : Value} {a : Option Addr} {Q : List (It × Nat)} {L : List It} {F : List Nat} {f : Int → Option Nat} {id due : Int}
    (h : TI w tb F L p mv a n c Q) (abs : ∀ x ∈ L, x.id ≠ id) (h1 : InI id) (h2 : InI due) (hp : p ≤ 1000000) (hf : FQ f Q) (hk : k ≤ p) (hmF : mb ∈ F ∨ w.heap.size ≤ mb)
    (hh2 : HeadAt w2 tb (.map (some mb)) (.slice a n c) (p + 1)) (hc : Chg [tb] w w2) (hg : w.heap.size ≤ g) (hi : ItemAt w2 g ⟨id, due, p + 1⟩ 0) (hm2 : MapAt w2 mb k f)
    (w4 : World) (hm : MapAt w4 mb (k + 1) (fun x => if x = id then some g else f x)) (hc4 : Chg [mb] w2 w4) :
    Calls Try.prog 29 #[.iface 69 (.pointer (some ⟨tb, 1, none⟩)), .iface 64 (.pointer (some ⟨g, 0, none⟩))] w4 fun e w' => e = .returned (.tuple #[]) ∧ PutAt w tb F (putL L id due (p + 1)) (p + 1) w' := by
  have hlow := h.head.lt
  have hq2 : QS w2 a n c Q F := h.qs.chg hc fun y hy => by simp; intro e; exact h.out (e ▸ hy)
  obtain ⟨Fq, q1, q2, q3⟩ := hq2.tight
  have hmq := q3 mb k f hm2
  have hmt := hm2.notT hh2
  have hmg : mb ≠ g := fun e => by
    unfold ItemAt at hi
    rw [← e] at hi
    exact hm2.not_cells _ _ _ hi
  have hgF : g ∉ Fq := fun hx => by have := h.low g (q2 g hx); omega
  have htF : tb ∉ Fq := fun hx => h.out (q2 tb hx)
  have htg : tb ≠ g := by omega
  have hnp : n ≤ p := by rw [h.len]; exact h.ok.len
  have q4 : QS w4 a n c Q Fq := q1.chg hc4 fun y hy => by simp; intro e; exact hmq (e ▸ hy)
  have hh4 : HeadAt w4 tb (.map (some mb)) (.slice a n c) (p + 1) := hh2.chg hc4 (by simp; exact Ne.symm hmt)
  have hi4 : ItemAt w4 g ⟨id, due, p + 1⟩ 0 := hi.chg hc4 (by simp; exact Ne.symm hmg)
  refine (hpush_any tb g n c (p + 1) 0 (.map (some mb)) a ⟨id, due, p + 1⟩ Q Fq w4 q4 h.heap hh4 hi4 htF hgF htg (by omega)).mono ?_
  rintro e w5 ⟨rfl, hpp⟩
  exact ⟨rfl, put_new_post (w2 := w2) (a := a) (c := c) h.qs.1 q2 h.perm h.ok abs h1 h2 hf hk hmF hmq hmt hmg hg (hc.mono (by simp)) hc4 hm hpp h.out hlow h.low⟩

theorem mk_map (w : World) : (Instr.makeMap 57 none).run Try.prog w = .ok (.map (some w.heap.size)) (w.alloc (.map #[] 0)) := by kernel_rfl
theorem eq_nomap (w : World) : (binOp .eql 57 (.map none) (.map none)).run Try.prog w = .ok (.bool true) w := by kernel_rfl
theorem eq_somemap (mb : Nat) (w : World) : (binOp .eql 57 (.map (some mb)) (.map none)).run Try.prog w = .ok (.bool false) w := by kernel_rfl

set_option maxRecDepth 100000 in
set_option maxHeartbeats 4000000 in
theorem put_new (tb : Nat) (F : List Nat) (L : List It) (p : Nat) (id due : Int) (w : World) (h : TimersAt w tb F L p) (abs : ∀ x ∈ L, x.id ≠ id) (hid : InI id) (hdue : InI due) (hp : p ≤ 1000000) :
    Calls Try.prog 17 #[.pointer (some ⟨tb, 0, none⟩), .int .i64 id, .int .i64 due] w fun e w' => e = .returned (.int .i64 0) ∧ PutAt w tb F (putL L id due (p + 1)) (p + 1) w' := by
  obtain ⟨mv, a, n, c, Q, h⟩ := h
  have habs : ∀ x ∈ Q, x.1.id ≠ id := fun x hx => abs _ (h.mem hx)
  have hlt := h.head.lt
  have hlt1 : tb ≠ w.heap.size := by omega
  have hlt2 : tb ≠ w.heap.size + 1 := by omega
  have hh1 : HeadAt (w.setCell ⟨tb, 2, none⟩ (.int .u64 ((p : Int) + 1))) tb mv (.slice a n c) (p + 1) := h.head.set2 (p + 1)
  have hc1 : Chg [tb] w (w.setCell ⟨tb, 2, none⟩ (.int .u64 ((p : Int) + 1))) := Chg.set1 _ _ _ _
  have hs1 : (w.setCell ⟨tb, 2, none⟩ (.int .u64 ((p : Int) + 1))).heap.size = w.heap.size := by simp
  have hm1 : MapQ (w.setCell ⟨tb, 2, none⟩ (.int .u64 ((p : Int) + 1))) mv p F Q := h.map.chg hc1 fun mb _ _ _ hm => by simp; intro e; exact h.out (e ▸ hm)
  have hl := hm1.look_none hid habs
  have c0 := h.head.c0
  have c2 := h.head.c2
  have f0 := h.head.fr 0
  have f2 := h.head.fr 2
  rcases hm1 with ⟨rfl, hQ⟩ | ⟨mb, k, f, rfl, hm1, hkp, hmF, hF⟩
  · obtain ⟨w2, hw2⟩ : ∃ w2, w2 = (((w.setCell ⟨tb, 2, none⟩ (.int .u64 ((p : Int) + 1))).setCell ⟨tb, 0, none⟩ (.map (some w.heap.size))).alloc (.map #[] 0)).alloc (.cells #[.int .i64 id, .int .i64 due, .int .u64 ((p : Int) + 1), .int .i64 0] 67) := ⟨_, rfl⟩
    have hm2 : MapAt w2 w.heap.size 0 (fun _ => none) := by
      rw [hw2]
      have e0 := map_new ((w.setCell ⟨tb, 2, none⟩ (.int .u64 ((p : Int) + 1))).setCell ⟨tb, 0, none⟩ (.map (some w.heap.size)))
      have e1 : ((w.setCell ⟨tb, 2, none⟩ (.int .u64 ((p : Int) + 1))).setCell ⟨tb, 0, none⟩ (.map (some w.heap.size))).heap.size = w.heap.size := by simp
      rw [e1] at e0
      exact e0.chg ((Chg.refl [] _).alloc _) (by simp)
    have hh2 : HeadAt w2 tb (.map (some w.heap.size)) (.slice a n c) (p + 1) := by
      rw [hw2]
      exact heap_old (heap_old (hh1.set0 _))
    have hi2 : ItemAt w2 (w.heap.size + 1) ⟨id, due, p + 1⟩ 0 := by
      rw [hw2]
      exact heap_new' _ _ _ (by simp)
    have hc2 : Chg [tb] w w2 := by
      rw [hw2]
      exact ((hc1.setCell (.inl (by simp)) _).alloc _).alloc _
    have hF0 : FQ (fun _ => none) Q := by
      rw [hQ]
      intro k b
      constructor
      · intro h; cases h
      · rintro ⟨x, hx, _⟩; simp at hx
    have NEW := Lib.hid (put_new_call (k := 0) (g := w.heap.size + 1) h abs hid hdue hp hF0 (by omega) (.inr (Nat.le_refl _)) hh2 hc2 (by omega) hi2 hm2)
    have heq := eq_nomap (w.setCell ⟨tb, 2, none⟩ (.int .u64 ((p : Int) + 1)))
    have hmk := mk_map (w.setCell ⟨tb, 2, none⟩ (.int .u64 ((p : Int) + 1)))
    rw [hs1] at hmk
    have c02 := hh2.c0
    have HM2 := Lib.hid hm2
    have HW2 := Lib.hid hw2
    rw [hw2] at HM2
    clear h abs habs hh1 hc1 hc2 hh2 hi2 hm2 hF0 hQ hw2 c02
    go_enter Try.func17, Try.ntmps17
    go_wp2_with (first | (at_mapUpdate; go_must (refine wpList_put rfl _ _ _ rfl HM2.out id hid (w.heap.size + 1) (by omega) rfl rfl rfl ?_; intro w4 hm4 hc4; rw [← HW2.out] at hc4; have N4 := NEW.out w4 hm4 hc4; clear hm4 hc4)))
    refine N4.mono ?_
    rintro e w5 ⟨rfl, hpp⟩
    have HP := Lib.hid hpp
    clear hpp N4
    go_wp2
    go_ret
    exact ⟨rfl, HP.out⟩
  · obtain ⟨w2, hw2⟩ : ∃ w2, w2 = (w.setCell ⟨tb, 2, none⟩ (.int .u64 ((p : Int) + 1))).alloc (.cells #[.int .i64 id, .int .i64 due, .int .u64 ((p : Int) + 1), .int .i64 0] 67) := ⟨_, rfl⟩
    have hm2 : MapAt w2 mb k f := by
      rw [hw2]
      exact hm1.chg ((Chg.refl [] _).alloc _) (by simp)
    have hh2 : HeadAt w2 tb (.map (some mb)) (.slice a n c) (p + 1) := by
      rw [hw2]
      exact heap_old hh1
    have hi2 : ItemAt w2 w.heap.size ⟨id, due, p + 1⟩ 0 := by
      rw [hw2]
      exact heap_new' _ _ _ (by simp)
    have hc2 : Chg [tb] w w2 := by
      rw [hw2]
      exact hc1.alloc _
    have NEW := Lib.hid (put_new_call (g := w.heap.size) h abs hid hdue hp hF hkp (.inl hmF) hh2 hc2 (by omega) hi2 hm2)
    have HM2 := Lib.hid hm2
    have HW2 := Lib.hid hw2
    rw [hw2] at HM2
    have heq := eq_somemap mb (w.setCell ⟨tb, 2, none⟩ (.int .u64 ((p : Int) + 1)))
    clear h abs habs hh1 hc1 hc2 hh2 hi2 hm2 hF hm1 hw2
    go_enter Try.func17, Try.ntmps17
    go_wp2_with (first | (at_mapUpdate; go_must (refine wpList_put rfl _ _ _ rfl HM2.out id hid w.heap.size (by omega) rfl rfl rfl ?_; intro w4 hm4 hc4; rw [← HW2.out] at hc4; have N4 := NEW.out w4 hm4 hc4; clear hm4 hc4)))
    refine N4.mono ?_
    rintro e w5 ⟨rfl, hpp⟩
    have HP := Lib.hid hpp
    clear hpp N4
    go_wp2
    go_ret
    exact ⟨rfl, HP.out⟩

/-- Put. -/
theorem put_any (tb : Nat) (F : List Nat) (L : List It) (p : Nat) (id due : Int) (w : World) (h : TimersAt w tb F L p) (hid : InI id) (hdue : InI due) (hp : p ≤ 1000000) :
    Calls Try.prog 17 #[.pointer (some ⟨tb, 0, none⟩), .int .i64 id, .int .i64 due] w fun e w' => e = .returned (.int .i64 0) ∧ PutAt w tb F (putL L id due (p + 1)) (p + 1) w' := by
  by_cases hx : ∃ x ∈ L, x.id = id
  · obtain ⟨x, hx, rfl⟩ := hx
    exact put_old tb F L p x due w h hx hdue hp
  · exact put_new tb F L p id due w h (fun x hxL e => hx ⟨x, hxL, e⟩) hid hdue hp

end Go.Proofs.Ytlkhaookdmgbnaa
