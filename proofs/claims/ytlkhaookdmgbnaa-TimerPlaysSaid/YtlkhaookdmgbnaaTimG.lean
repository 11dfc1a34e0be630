/- Timers: the walks of Drop and Put. -/
import Derived.Test.YtlkhaookdmgbnaaTimF
namespace Go.Proofs.Ytlkhaookdmgbnaa
open Go.RowKit

theorem FQ_iff {f : Int → Option Nat} {Q : List (It × Nat)} : FQ f Q ↔ ∀ k b, f k = some b ↔ (k, b) ∈ Q.map (fun x => (x.1.id, x.2)) := by
  unfold FQ
  simp only [List.mem_map, Prod.mk.injEq]
theorem FQ.perm {f : Int → Option Nat} {Q R : List (It × Nat)} (h : FQ f Q) (hp : R.Perm Q) : FQ f R := by
  rw [FQ_iff] at h ⊢
  intro k b
  rw [h k b, (hp.map _).mem_iff]
theorem FQ.set {f : Int → Option Nat} {Q : List (It × Nat)} (h : FQ f Q) {i : Nat} (hi : i < Q.length) {y : It × Nat} (h1 : y.1.id = Q[i].1.id) (h2 : y.2 = Q[i].2) : FQ f (Q.set i y) := by
  rw [FQ_iff] at h ⊢
  have e : (Q.set i y).map (fun x => (x.1.id, x.2)) = Q.map (fun x => (x.1.id, x.2)) := by
    rw [List.map_set, h1, h2]
    apply List.ext_getElem
    · simp
    · intro k hk1 hk2
      rw [List.getElem_set]
      split
      · rename_i e; subst e; simp
      · rfl
  rw [e]
  exact h
theorem MapAt.notQ {w : World} {mb k : Nat} {f : Int → Option Nat} (h : MapAt w mb k f) {qb cap : Nat} {Q : List (It × Nat)} (hq : QAt w qb cap Q) : mb ∉ blksQ qb Q := by
  intro hm
  rcases List.mem_cons.1 hm with e | e
  · obtain ⟨rest, _, hr⟩ := hq.row
    rw [← e] at hr
    exact h.not_cells _ _ _ hr
  · obtain ⟨x, hx, e2⟩ := List.mem_map.1 e
    obtain ⟨i, hi, rfl⟩ := List.getElem_of_mem hx
    have := hq.items i hi
    unfold ItemAt at this
    rw [e2] at this
    exact h.not_cells _ _ _ this
theorem MapAt.notT {w : World} {mb k : Nat} {f : Int → Option Nat} (h : MapAt w mb k f) {tb p : Nat} {mv qv : Value} (hh : HeadAt w tb mv qv p) : mb ≠ tb := by
  intro e
  unfold HeadAt at hh
  rw [← e] at hh
  exact h.not_cells _ _ _ hh

theorem drop_none (tb : Nat) (F : List Nat) (L : List It) (p : Nat) (id : Int) (w : World) (h : TimersAt w tb F L p) (hi : InI id) (hx : ∀ x ∈ L, x.id ≠ id) :
    Calls Try.prog 18 #[.pointer (some ⟨tb, 0, none⟩), .int .i64 id] w fun e w' => e = .returned (.bool false) ∧ w = w' := by
  obtain ⟨mv, a, n, c, Q, h⟩ := h
  have c0 := h.head.c0
  have hl := h.map.look_none hi fun x hq => hx _ (h.mem hq)
  clear h hx hi
  go_enter Try.func18, Try.ntmps18
  go_wp2
  go_ret
  exact ⟨rfl, rfl⟩

theorem drop_post {w w1 w2 : World} {tb : Nat} {F : List Nat} {L : List It} {p qb n m c i mb k : Nat} {f : Int → Option Nat} {Q : List (It × Nat)} (h : TI w tb F L p (.map (some mb)) (some ⟨qb, 0, none⟩) n c Q) (hi : i < Q.length) (hkp : k ≤ p) (hmF : mb ∈ F) (hF : FQ f Q) (hmm : n = m + 1)
    (hr : RemPost w tb qb c m p (.map (some mb)) (Q.getD i (itZ, 0)) Q w1) (hm : MapAt w2 mb k (fun x => if x = Q[i].1.id then none else f x)) (hc : Chg [mb] w1 w2) (hmQ : mb ∉ blksQ qb Q) (hmt : mb ≠ tb) (hbF : ∀ y ∈ blksQ qb Q, y ∈ F) (hcm : c ≤ maxLen) :
    TimersAt w2 tb F (delL L Q[i].1.id) p ∧ Chg (tb :: F) w w2 := by
  obtain ⟨R, r1, r2, r3, r4, r5, r6⟩ := hr
  have e0 : Q.getD i (itZ, 0) = Q[i] := by simp [hi]
  rw [e0] at r4
  have hsub : ∀ y ∈ blksQ qb R, y ∈ blksQ qb Q := by
    intro y hy
    rcases List.mem_cons.1 hy with e | e
    · simp [blksQ, e]
    · obtain ⟨x, hx, rfl⟩ := List.mem_map.1 e
      simp only [blksQ, List.mem_cons, List.mem_map]
      exact .inr ⟨x, r4.mem_iff.1 (by simp [hx]), rfl⟩
  have hlen : n = Q.length := h.qs.1
  have hnc := h.qs.2.1
  have hpi : (Q[i].1 :: itsQ R).Perm L := by
    have h1 := r4.map (·.1)
    rw [List.map_append] at h1
    exact ((List.perm_append_singleton Q[i].1 (itsQ R)).symm.trans h1).trans h.perm
  have hids : ((Q[i].1 :: itsQ R).map It.id).Nodup := ((hpi.map It.id).nodup_iff).2 h.ok.ids
  refine ⟨⟨.map (some mb), some ⟨qb, 0, none⟩, m, c, R, ⟨r1.chg hc (by simp; exact Ne.symm hmt), ⟨r2, by omega, .inr ⟨qb, rfl, hcm, r3.chg hc (by intro y hy; simp; intro e; subst e; exact hmQ (hsub _ hy)), fun y hy => hbF y (hsub y hy)⟩⟩, r5, perm_out hpi h.ok.ids, ?_, h.out, ?_, h.ok.del _⟩⟩, ?_⟩
  · refine .inr ⟨mb, k, _, rfl, hm, hkp, hmF, ?_⟩
    intro y b
    dsimp only
    by_cases e : y = Q[i].1.id
    · rw [if_pos e]
      constructor
      · intro h; cases h
      · rintro ⟨x, hx, h1, h2⟩
        rw [List.map_cons, List.nodup_cons] at hids
        exact absurd (List.mem_map.2 ⟨x.1, List.mem_map.2 ⟨x, hx, rfl⟩, by rw [h1, e]⟩) hids.1
    · rw [if_neg e, hF y b]
      constructor
      · rintro ⟨x, hx, h1, h2⟩
        have := r4.mem_iff.2 hx
        rcases List.mem_append.1 this with hh | hh
        · exact ⟨x, hh, h1, h2⟩
        · simp at hh
          rw [hh] at h1
          exact absurd h1.symm e
      · rintro ⟨x, hx, h1, h2⟩
        exact ⟨x, r4.mem_iff.1 (by simp [hx]), h1, h2⟩
  · intro y hy
    have := h.low y hy
    have := r6.size
    have := hc.size
    omega
  · refine (r6.mono ?_).trans (hc.mono ?_)
    · intro y hy
      rcases List.mem_cons.1 hy with e | e
      · simp [e]
      · exact List.mem_cons_of_mem _ (hbF y e)
    · intro y hy
      simp at hy
      rw [hy]
      exact List.mem_cons_of_mem _ hmF

set_option maxRecDepth 100000 in
set_option maxHeartbeats 2000000 in
theorem drop_some (tb : Nat) (F : List Nat) (L : List It) (p : Nat) (x : It) (w : World) (h : TimersAt w tb F L p) (hx : x ∈ L) (hp : p ≤ 1000000) :
    Calls Try.prog 18 #[.pointer (some ⟨tb, 0, none⟩), .int .i64 x.id] w fun e w' => e = .returned (.bool true) ∧ TimersAt w' tb F (delL L x.id) p ∧ Chg (tb :: F) w w' := by
  obtain ⟨mv, a, n, c, Q, h⟩ := h
  obtain ⟨i, hi, hQ⟩ := h.of_mem hx
  have hidI := h.ok.idI x hx
  have hl := h.map.look hidI (List.getElem_mem hi) (by rw [hQ])
  have k3 := (h.qs.item hi).c3
  obtain ⟨g, hg⟩ : ∃ g, g = Q[i].2 := ⟨_, rfl⟩
  rw [← hg] at hl k3
  obtain ⟨hn, hnc, hqq⟩ := h.qs
  have hnp : n ≤ p := by rw [h.len]; exact h.ok.len
  obtain ⟨m, hm⟩ : ∃ m, n = m + 1 := ⟨n - 1, by omega⟩
  rcases hqq with ⟨_, e, _⟩ | ⟨qb, rfl, hcm, hq, hbF⟩
  · omega
  rcases h.map with ⟨_, e⟩ | ⟨mb, k, f, rfl, hmap, hkp, hmF, hF⟩
  · rw [e] at hi; simp at hi
  have hne : tb ∉ blksQ qb Q := fun hh => h.out (hbF tb hh)
  have hmQ := hmap.notQ hq
  have hmt := hmap.notT h.head
  have c0 := h.head.c0
  have HT := Lib.hid (And.intro h (And.intro hmap (And.intro hF (And.intro hbF (And.intro hm hn)))))
  have HQ := Lib.hid hQ
  clear h hmap hF hbF hg hQ hx
  rw [← HQ.out]
  rw [← HQ.out] at hl hidI
  obtain ⟨id, hid⟩ : ∃ id, id = Q[i].1.id := ⟨_, rfl⟩
  rw [← hid] at hl hidI ⊢
  have HID := Lib.hid hid
  clear hid hm hn
  go_enter Try.func18, Try.ntmps18
  go_wp2_with fail
  have hqd : QAt w.drew qb c Q := hq.drewN 1
  go_region_with (go_at_call 30; go_must (refine (hremove_any tb qb c n m p i (.map (some mb)) Q _ hqd hne HT.out.1.head HT.out.1.heap (Lib.hid HT.out.2.2.2.2.2) HT.out.2.2.2.2.1 hnc (by omega) (by have := HT.out.2.2.2.2.2; omega)).mono ?_; rintro e w1 ⟨⟨v, rfl⟩, hrem⟩))
  all_goals
    have hrem' : RemPost w tb qb c m p (.map (some mb)) (Q.getD i (itZ, 0)) Q w1 := by
      obtain ⟨R, r1, r2, r3, r4, r5, r6⟩ := hrem
      exact ⟨R, r1, r2, r3, r4, r5, r6.undrew⟩
    have hmap1 : MapAt w1 mb k f := by
      obtain ⟨R, r1, r2, r3, r4, r5, r6⟩ := hrem'
      exact HT.out.2.1.chg r6 (by simp only [List.mem_cons, not_or]; exact ⟨hmt, hmQ⟩)
    have c01 : w1.cell? ⟨tb, 0, none⟩ = some (.map (some mb)) := by
      obtain ⟨R, r1, r2, r3, r4, r5, r6⟩ := hrem'
      exact r1.c0
    have HR := Lib.hid hrem'
    clear hrem hrem' hl k3 c0
    go_wp2_with (at_delete; go_must (refine wpList_del rfl _ _ rfl hmap1 id hidI rfl rfl ?_; intro w2 hm2 hc2; have HP : Hid (TimersAt w2 tb F (delL L id) p ∧ Chg (tb :: F) w w2) := Lib.hid (by rw [HID.out] at hm2 ⊢; exact drop_post HT.out.1 hi hkp hmF HT.out.2.2.1 HT.out.2.2.2.2.1 HR.out hm2 hc2 hmQ hmt HT.out.2.2.2.1 hcm); clear hm2 hc2))
    go_ret
    exact ⟨rfl, HP.out.1, HP.out.2⟩

end Go.Proofs.Ytlkhaookdmgbnaa
