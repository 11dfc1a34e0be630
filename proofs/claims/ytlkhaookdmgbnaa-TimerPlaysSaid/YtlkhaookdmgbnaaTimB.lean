/- The queue of timers in memory; the walks of Len, Less, Swap. -/
import Derived.Test.YtlkhaookdmgbnaaTimA
namespace Go.Proofs.Ytlkhaookdmgbnaa
open Go.RowKit

theorem run_wrapchk {P : Program} (t : TypeId) (a : Addr) (s n : String) (w : World) : (Builtin.ssaWrapNilChk_ #[t] t #[.pointer (some a), strVal s, strVal n]).run P w = .ok (.pointer (some a)) w := by rfl
theorem run_method_val {P : Program} (t e : TypeId) (name : String) (fuel : Nat) (f : FuncId) (a : Addr) (v : Value) (w : World)
    (hi : ((P.info? t).bind (fun i => i.methods.find? (·.name == name))).map (fun m => (m.path, m.func)) = some (#[], some (f, false))) (hu : P.underlying t = some (.pointer e)) (hl : (loadVar e a).run P w = .ok v w) :
    (method (fuel + 1) t (.pointer (some a)) name).run P w = .ok (f, v) w := by
  cases hq : P.info? t with
  | none => rw [hq] at hi; simp at hi
  | some i =>
    rw [hq] at hi
    simp only [Option.bind_some] at hi
    cases hm : i.methods.find? (·.name == name) with
    | none => rw [hm] at hi; simp at hi
    | some m =>
      rw [hm] at hi
      simp only [Option.map_some, Option.some.injEq, Prod.mk.injEq] at hi
      obtain ⟨hp, hf⟩ := hi
      unfold method
      simp only [Sem.run_bind, typeInfo]
      simp [hq, hm, hp, hf, follow, receiverAt, Place.get, run_underlying hu, Sem.run_bind, run_wrapchk, asAddr, hl]

theorem ItemAt.drewN {w : World} {g : Nat} {x : It} {k : Nat} (h : ItemAt w g x k) (n : Nat) : ItemAt (w.drewN n) g x k := h
/-- The queue's row in block qb: pointers to the things' blocks, each of which knows its place. -/
structure QAt (w : World) (qb cap : Nat) (Q : List (It × Nat)) : Prop where
  row : ∃ rest : List Value, Q.length + rest.length = cap ∧ w.heap[qb]? = some (.cells ((Q.map fun x => Value.pointer (some ⟨x.2, 0, none⟩)) ++ rest).toArray 64 (0, 0))
  items : ∀ i (h : i < Q.length), ItemAt w Q[i].2 Q[i].1 i
  nodup : (Q.map (·.2)).Nodup
/-- The blocks that belong to a queue. -/
def blksQ (qb : Nat) (Q : List (It × Nat)) : List Nat := qb :: Q.map (·.2)
section
variable {w : World} {qb cap : Nat} {Q : List (It × Nat)}
theorem QAt.lt (h : QAt w qb cap Q) : qb < w.heap.size := by obtain ⟨_, _, h⟩ := h.row; exact lt_of_block h
theorem QAt.get (h : QAt w qb cap Q) (i : Nat) (hi : i < Q.length) : w.cell? ⟨qb, i, none⟩ = some (.pointer (some ⟨Q[i].2, 0, none⟩)) := by
  obtain ⟨rest, _, h⟩ := h.row
  rw [cell_of h, List.getElem?_toArray, List.getElem?_append_left (by simpa using hi)]
  simp [hi]
theorem QAt.fr (h : QAt w qb cap Q) (i : Nat) : w.frozen? ⟨qb, i, none⟩ = false := by obtain ⟨_, _, h⟩ := h.row; exact free_of h
theorem QAt.ne (h : QAt w qb cap Q) (i : Nat) (hi : i < Q.length) : Q[i].2 ≠ qb := by
  obtain ⟨rest, _, h1⟩ := h.row
  intro e
  have := h.items i hi
  unfold ItemAt at this
  rw [e, h1] at this
  injection this with this
  injection this with _ this
  exact absurd this (by decide)
theorem QAt.chg {w' : World} {S : List Nat} (h : QAt w qb cap Q) (hc : Chg S w w') (hS : ∀ x ∈ blksQ qb Q, x ∉ S) : QAt w' qb cap Q := by
  obtain ⟨rest, hr, h1⟩ := h.row
  exact ⟨⟨rest, hr, hc.keep h1 (hS _ (by simp [blksQ]))⟩, fun i hi => (h.items i hi).chg hc (hS _ (by simp only [blksQ, List.mem_cons, List.mem_map]; exact .inr ⟨Q[i], List.getElem_mem hi, rfl⟩)), h.nodup⟩
theorem QAt.drewN (h : QAt w qb cap Q) (n : Nat) : QAt (w.drewN n) qb cap Q := h.chg ((Chg.refl [] _).drewN n) (by simp)
theorem QAt.apart (h : QAt w qb cap Q) {i j : Nat} (hi : i < Q.length) (hj : j < Q.length) (hne : i ≠ j) : Q[i].2 ≠ Q[j].2 := by
  intro e
  have hn := h.nodup
  rcases Nat.lt_or_gt_of_ne hne with hh | hh
  · exact List.pairwise_iff_getElem.1 hn i j (by simpa using hi) (by simpa using hj) hh (by simpa using e)
  · exact List.pairwise_iff_getElem.1 hn j i (by simpa using hj) (by simpa using hi) hh (by simpa using e.symm)
end

theorem qlen_any (a : Option Addr) (n c : Nat) (w : World) :
    Calls Try.prog 50 #[.slice a n c] w fun e w' => e = .returned (.int .i64 n) ∧ w = w' := by
  go_enter Try.func50, Try.ntmps50
  go_wp2
  go_ret
  exact ⟨rfl, rfl⟩

set_option maxHeartbeats 1000000 in
theorem less_any (qb cap i j : Nat) (Q : List (It × Nat)) (w : World) (h : QAt w qb cap Q) (hi : i < Q.length) (hj : j < Q.length) (B : Bool) (hB : Hid (B = ltI (Q[i]).1 (Q[j]).1)) :
    Calls Try.prog 51 #[.slice (some ⟨qb, 0, none⟩) Q.length cap, .int .i64 i, .int .i64 j] w fun e w' => e = .returned (.bool B) ∧ ∃ n, w' = w.drewN n := by
  have c1 := h.get i hi
  have c2 := h.get j hj
  have k1 := h.items i hi
  have k2 := h.items j hj
  obtain ⟨g, hg⟩ : ∃ g, g = Q[i].2 := ⟨_, rfl⟩
  obtain ⟨m, hm⟩ : ∃ m, m = Q[j].2 := ⟨_, rfl⟩
  obtain ⟨x, hx⟩ : ∃ x, x = Q[i].1 := ⟨_, rfl⟩
  obtain ⟨y, hy⟩ : ∃ y, y = Q[j].1 := ⟨_, rfl⟩
  rw [← hx, ← hy] at hB
  rw [← hg] at c1 k1
  rw [← hm] at c2 k2
  rw [← hx] at k1
  rw [← hy] at k2
  have i1 : (i : Int) < (Q.length : Int) := by omega
  have i2 : (j : Int) < (Q.length : Int) := by omega
  clear hg hm hx hy
  go_enter Try.func51, Try.ntmps51
  go_wp2_with fail
  go_quiet ((go_at_call 53; exact Calls.quiet_of (before_any g m i j x y _ (ItemAt.drewN k1 _) (ItemAt.drewN k2 _) B hB)))
  go_wp2
  go_ret
  exact ⟨rfl, _, rfl⟩

theorem QAt.swap {w : World} {qb cap : Nat} {Q : List (It × Nat)} (h : QAt w qb cap Q) {i j : Nat} (hi : i < Q.length) (hj : j < Q.length) (hne : i ≠ j) :
    QAt ((((w.setCell ⟨qb, i, none⟩ (.pointer (some ⟨Q[j].2, 0, none⟩))).setCell ⟨qb, j, none⟩ (.pointer (some ⟨Q[i].2, 0, none⟩))).setCell ⟨Q[j].2, 3, none⟩ (.int .i64 i)).setCell ⟨Q[i].2, 3, none⟩ (.int .i64 j)) qb cap (swapI (itZ, 0) Q i j) := by
  have hij := h.apart hi hj hne
  have hiq := h.ne i hi
  have hjq := h.ne j hj
  have e1 : Q.getD j (itZ, 0) = Q[j] := by simp [hj]
  have e2 : Q.getD i (itZ, 0) = Q[i] := by simp [hi]
  obtain ⟨rest, hr, hrow⟩ := h.row
  refine ⟨⟨rest, by rw [swapI_length]; exact hr, ?_⟩, ?_, ?_⟩
  · rw [heap_set_other _ (Ne.symm hiq), heap_set_other _ (Ne.symm hjq), heap_set (heap_set hrow _)]
    rw [List.setIfInBounds_toArray, List.setIfInBounds_toArray, List.set_append_left _ _ (by simpa using hi), List.set_append_left _ _ (by simpa using hj)]
    unfold swapI
    rw [List.map_set, List.map_set, e1, e2]
  · intro k hk
    rw [swapI_length] at hk
    have hg : (swapI (itZ, 0) Q i j)[k]'(by rw [swapI_length]; exact hk) = (swapI (itZ, 0) Q i j).getD k (itZ, 0) := by simp [swapI_length, hk]
    rw [hg, swapI_get (itZ, 0) Q i j k hi hj, e1, e2]
    by_cases h1 : k = j
    · subst h1
      rw [if_pos rfl]
      have := h.items i hi
      have h3 : ItemAt (((w.setCell ⟨qb, i, none⟩ (.pointer (some ⟨Q[k].2, 0, none⟩))).setCell ⟨qb, k, none⟩ (.pointer (some ⟨Q[i].2, 0, none⟩))).setCell ⟨Q[k].2, 3, none⟩ (.int .i64 i)) Q[i].2 Q[i].1 i := by
        unfold ItemAt
        rw [heap_set_other _ hij, heap_set_other _ hiq, heap_set_other _ hiq]
        exact this
      exact h3.move k
    · rw [if_neg h1]
      by_cases h2 : k = i
      · subst h2
        rw [if_pos rfl]
        have := h.items j hj
        have h3 : ItemAt ((w.setCell ⟨qb, k, none⟩ (.pointer (some ⟨Q[j].2, 0, none⟩))).setCell ⟨qb, j, none⟩ (.pointer (some ⟨Q[k].2, 0, none⟩))) Q[j].2 Q[j].1 j := by
          unfold ItemAt
          rw [heap_set_other _ hjq, heap_set_other _ hjq]
          exact this
        have h4 := h3.move k
        unfold ItemAt at h4 ⊢
        rw [heap_set_other _ (Ne.symm hij)]
        exact h4
      · rw [if_neg h2]
        have e3 : Q.getD k (itZ, 0) = Q[k] := by simp [hk]
        rw [e3]
        have h3 := h.items k hk
        unfold ItemAt at h3 ⊢
        rw [heap_set_other _ (h.apart hk hi h2), heap_set_other _ (h.apart hk hj h1), heap_set_other _ (h.ne k hk), heap_set_other _ (h.ne k hk)]
        exact h3
  · have := (swapI_perm (itZ, 0) Q i j hi hj).map (·.2)
    exact this.nodup_iff.2 h.nodup

/-- Four stores into the blocks of a queue. -/
theorem chg_swap {w : World} {qb i j g m : Nat} {S : List Nat} (hq : qb ∈ S) (hg : g ∈ S) (hm : m ∈ S) (v1 v2 v3 v4 : Value) :
    Chg S w ((((w.setCell ⟨qb, i, none⟩ v1).setCell ⟨qb, j, none⟩ v2).setCell ⟨m, 3, none⟩ v3).setCell ⟨g, 3, none⟩ v4) :=
  ((((Chg.refl S w).setCell (.inl hq) _).setCell (.inl hq) _).setCell (.inl hm) _).setCell (.inl hg) _

set_option maxHeartbeats 2000000 in
theorem swap_any (qb cap i j : Nat) (Q : List (It × Nat)) (w : World) (h : QAt w qb cap Q) (hi : i < Q.length) (hj : j < Q.length) (hne : i ≠ j) :
    Calls Try.prog 52 #[.slice (some ⟨qb, 0, none⟩) Q.length cap, .int .i64 i, .int .i64 j] w fun e w' => e = .returned (.tuple #[]) ∧ QAt w' qb cap (swapI (itZ, 0) Q i j) ∧ Chg (blksQ qb Q) w w' := by
  have HSW := Lib.hid (h.swap hi hj hne)
  have c1 := h.get i hi
  have c2 := h.get j hj
  have f1 := h.fr i
  have f2 := h.fr j
  have k1 := (h.items i hi).c3
  have k2 := (h.items j hj).c3
  have g1 := (h.items i hi).fr 3
  have g2 := (h.items j hj).fr 3
  have hij := h.apart hi hj hne
  have hiq := h.ne i hi
  have hjq := h.ne j hj
  have HM : Hid (Q[i].2 ∈ blksQ qb Q ∧ Q[j].2 ∈ blksQ qb Q) := Lib.hid ⟨by simp only [blksQ, List.mem_cons, List.mem_map]; exact .inr ⟨Q[i], List.getElem_mem hi, rfl⟩, by simp only [blksQ, List.mem_cons, List.mem_map]; exact .inr ⟨Q[j], List.getElem_mem hj, rfl⟩⟩
  obtain ⟨g, hg⟩ : ∃ g, g = Q[i].2 := ⟨_, rfl⟩
  obtain ⟨m, hm⟩ : ∃ m, m = Q[j].2 := ⟨_, rfl⟩
  rw [← hg] at c1 k1 g1 hij hiq HSW HM
  rw [← hm] at c2 k2 g2 hij hjq HSW HM
  have i1 : (i : Int) < (Q.length : Int) := by omega
  have i2 : (j : Int) < (Q.length : Int) := by omega
  have hne' : j ≠ i := Ne.symm hne
  have hqi : qb ≠ g := Ne.symm hiq
  have hqj : qb ≠ m := Ne.symm hjq
  have hji : m ≠ g := Ne.symm hij
  have HCH : Hid (Chg (blksQ qb Q) w ((((w.setCell ⟨qb, i, none⟩ (.pointer (some ⟨m, 0, none⟩))).setCell ⟨qb, j, none⟩ (.pointer (some ⟨g, 0, none⟩))).setCell ⟨m, 3, none⟩ (.int .i64 i)).setCell ⟨g, 3, none⟩ (.int .i64 j))) := Lib.hid (chg_swap (by simp [blksQ]) HM.out.1 HM.out.2 _ _ _ _)
  clear hg hm h
  go_enter Try.func52, Try.ntmps52
  go_wp2_with fail
  go_region
  go_wp2_with fail
  go_region
  go_wp2
  go_end0
  exact ⟨rfl, HSW.out.drewN 2, HCH.out.drewN 2⟩

end Go.Proofs.Ytlkhaookdmgbnaa
