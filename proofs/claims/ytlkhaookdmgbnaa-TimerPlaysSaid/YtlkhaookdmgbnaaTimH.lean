/- Timers: the walk of Put. -/
import Derived.Test.YtlkhaookdmgbnaaTimG
namespace Go.Proofs.Ytlkhaookdmgbnaa
open Go.RowKit

theorem QS.tight {w : World} {a : Option Addr} {n c : Nat} {Q : List (It × Nat)} {F : List Nat} (h : QS w a n c Q F) : ∃ Fq, QS w a n c Q Fq ∧ (∀ y ∈ Fq, y ∈ F) ∧ ∀ mb k f, MapAt w mb k f → mb ∉ Fq := by
  obtain ⟨h1, h2, h3⟩ := h
  rcases h3 with h3 | ⟨qb, h4, h5, h6, h7⟩
  · exact ⟨[], ⟨h1, h2, .inl h3⟩, by simp, by simp⟩
  · exact ⟨blksQ qb Q, ⟨h1, h2, .inr ⟨qb, h4, h5, h6, fun _ h => h⟩⟩, h7, fun mb k f hm => hm.notQ h6⟩
/-- What Put leaves behind. -/
def PutAt (w : World) (tb : Nat) (F : List Nat) (L : List It) (p : Nat) (w' : World) : Prop :=
  ∃ F', TimersAt w' tb F' L p ∧ (∀ y ∈ F', y ∈ F ∨ w.heap.size ≤ y) ∧ Chg (tb :: F) w w'
theorem put_new_post {w w2 w4 w5 : World} {tb mb g n c p k : Nat} {a : Option Addr} {Q : List (It × Nat)} {L : List It} {F Fq : List Nat} {f : Int → Option Nat} {id due : Int}
    (hn : n = Q.length) (hFq : ∀ y ∈ Fq, y ∈ F) (perm : (itsQ Q).Perm L) (ok : OkL L p) (abs : ∀ x ∈ L, x.id ≠ id) (h1 : InI id) (h2 : InI due) (hf : FQ f Q) (hk : k ≤ p)
    (hmF : mb ∈ F ∨ w.heap.size ≤ mb) (hmq : mb ∉ Fq) (hmt : mb ≠ tb) (hmg : mb ≠ g) (hg : w.heap.size ≤ g) (hc : Chg (tb :: F) w w2) (hc4 : Chg [mb] w2 w4)
    (hm : MapAt w4 mb (k + 1) (fun x => if x = id then some g else f x)) (hp : PutPost w4 tb g n (p + 1) (.map (some mb)) ⟨id, due, p + 1⟩ Q Fq w5) (htF : tb ∉ F) (hlow : tb < w.heap.size) (low : ∀ y ∈ F, y < w.heap.size) : PutAt w tb F (putL L id due (p + 1)) (p + 1) w5 := by
  obtain ⟨qb, cap, R, k1, k2, k3, k4, k5, k6, k7, k8⟩ := hp
  have s1 := hc.size
  have s2 := hc4.size
  have s3 := k8.size
  have hRl : n + 1 = R.length := by rw [k5.length_eq, List.length_append, ← hn]; rfl
  have hmS : mb ∉ tb :: g :: Fq := by simp only [List.mem_cons, not_or]; exact ⟨hmt, hmg, hmq⟩
  have hext : ∀ y ∈ blksQ qb R, y ∈ F ∨ w.heap.size ≤ y := by
    intro y hy
    rcases k7 y hy with e | e
    · rcases List.mem_cons.1 e with e | e
      · right; omega
      · exact .inl (hFq y e)
    · right; omega
  have hmP : MapAt w5 mb (k + 1) (fun x => if x = id then some g else f x) := hm.chg k8 hmS
  refine ⟨mb :: blksQ qb R, ⟨.map (some mb), some ⟨qb, 0, none⟩, n + 1, cap, R, ⟨k1, ⟨hRl, k2, .inr ⟨qb, rfl, k3, k4, fun y hy => List.mem_cons_of_mem _ hy⟩⟩, k6, ?_, ?_, ?_, ?_, ok.put h1 h2⟩⟩, ?_, ?_⟩
  · have e := (k5.map (·.1))
    rw [List.map_append] at e
    unfold putL
    rw [delL_absent abs]
    exact e.trans (perm.append_right _)
  · refine .inr ⟨mb, k + 1, _, rfl, hmP, by omega, by simp, FQ.perm ?_ k5⟩
    intro y b
    dsimp only
    by_cases e : y = id
    · rw [if_pos e]
      constructor
      · intro h
        injection h with h
        exact ⟨(⟨id, due, p + 1⟩, g), by simp, e.symm, h⟩
      · rintro ⟨x, hx, h1, h2⟩
        rcases List.mem_append.1 hx with hh | hh
        · exact absurd (h1.trans e) (abs _ (perm.mem_iff.1 (List.mem_map.2 ⟨x, hh, rfl⟩)))
        · simp at hh
          rw [← h2, hh]
    · rw [if_neg e, hf y b]
      constructor
      · rintro ⟨x, hx, h1, h2⟩
        exact ⟨x, by simp [hx], h1, h2⟩
      · rintro ⟨x, hx, h1, h2⟩
        rcases List.mem_append.1 hx with hh | hh
        · exact ⟨x, hh, h1, h2⟩
        · simp at hh
          rw [hh] at h1
          exact absurd h1.symm e
  · simp only [List.mem_cons, not_or]
    refine ⟨Ne.symm hmt, fun hh => ?_⟩
    rcases hext tb hh with e | e
    · exact htF e
    · omega
  · intro y hy
    rcases List.mem_cons.1 hy with e | e
    · rw [e]; exact hmP.lt
    · rcases List.mem_cons.1 e with e | e
      · rw [e]; exact k4.lt
      · obtain ⟨x, hx, rfl⟩ := List.mem_map.1 e
        obtain ⟨i, hi, rfl⟩ := List.getElem_of_mem hx
        exact (k4.items i hi).lt
  · intro y hy
    rcases List.mem_cons.1 hy with e | e
    · rw [e]; exact hmF
    · exact hext y e
  · refine (hc.trans_new hc4 ?_).trans_new k8 ?_
    · intro y hy
      simp at hy
      rw [hy]
      rcases hmF with e | e
      · exact .inl (List.mem_cons_of_mem _ e)
      · exact .inr e
    · intro y hy
      rcases List.mem_cons.1 hy with e | e
      · left; simp [e]
      · rcases List.mem_cons.1 e with e | e
        · right; omega
        · exact .inl (List.mem_cons_of_mem _ (hFq y e))

theorem QAt.reset {w : World} {tb qb cap i : Nat} {Q : List (It × Nat)} (h : QAt w qb cap Q) (hi : i < Q.length) (hne : tb ∉ blksQ qb Q) (v : Value) (due : Int) (q : Nat) :
    QAt (((w.setCell ⟨tb, 2, none⟩ v).setCell ⟨Q[i].2, 1, none⟩ (.int .i64 due)).setCell ⟨Q[i].2, 2, none⟩ (.int .u64 q)) qb cap (Q.set i (⟨Q[i].1.id, due, q⟩, Q[i].2)) := by
  have hqt : qb ≠ tb := fun e => hne (by simp [blksQ, e])
  have hiq := h.ne i hi
  have hmm : (Q.set i (⟨Q[i].1.id, due, q⟩, Q[i].2)).map (·.2) = Q.map (·.2) := by
    rw [List.map_set]
    apply List.ext_getElem
    · simp
    · intro k hk1 hk2
      rw [List.getElem_set]
      split
      · rename_i e; subst e; simp
      · rfl
  obtain ⟨rest, hr, hrow⟩ := h.row
  refine ⟨⟨rest, by simpa using hr, ?_⟩, ?_, by rw [hmm]; exact h.nodup⟩
  · rw [heap_set_other _ (Ne.symm hiq), heap_set_other _ (Ne.symm hiq), heap_set_other _ hqt, hrow]
    have e1 : ∀ P : List (It × Nat), P.map (fun x => Value.pointer (some ⟨x.2, 0, none⟩)) = (P.map (·.2)).map (fun b => Value.pointer (some ⟨b, 0, none⟩)) := by intro P; simp
    rw [e1, e1, hmm]
  · intro k hk
    have hk' : k < Q.length := by simpa using hk
    rw [List.getElem_set]
    split
    · rename_i e
      subst e
      have h0 := h.items i hi
      have n1 : Q[i].2 ≠ tb := fun e => hne (by simp only [blksQ, List.mem_cons, List.mem_map]; exact .inr ⟨Q[i], List.getElem_mem _, e⟩)
      have h1 : ItemAt (w.setCell ⟨tb, 2, none⟩ v) Q[i].2 Q[i].1 i := by unfold ItemAt at h0 ⊢; rw [heap_set_other _ n1]; exact h0
      unfold ItemAt at h1 ⊢
      rw [heap_set (heap_set h1 _)]
      rfl
    · rename_i e
      have h0 := h.items k hk'
      have n1 : Q[k].2 ≠ tb := fun e => hne (by simp only [blksQ, List.mem_cons, List.mem_map]; exact .inr ⟨Q[k], List.getElem_mem _, e⟩)
      have n2 : Q[k].2 ≠ Q[i].2 := h.apart hk' hi (Ne.symm e)
      unfold ItemAt at h0 ⊢
      rw [heap_set_other _ n2, heap_set_other _ n2, heap_set_other _ n1]
      exact h0

theorem put_old_post {w w2 w3 : World} {tb : Nat} {F : List Nat} {L : List It} {p qb n c i : Nat} {mv : Value} {Q : List (It × Nat)} {due : Int} (h : TI w tb F L p mv (some ⟨qb, 0, none⟩) n c Q) (hi : i < Q.length) (hq : QAt w qb c Q) (hbF : ∀ y ∈ blksQ qb Q, y ∈ F) (hcm : c ≤ maxLen) (h2 : InI due)
    (hh : HeadAt w2 tb mv (.slice (some ⟨qb, 0, none⟩) n c) (p + 1)) (hc : Chg [tb, Q[i].2] w w2) (hp : HeapPost w2 tb qb c n (Q.set i (⟨Q[i].1.id, due, p + 1⟩, Q[i].2)) w3) : PutAt w tb F (putL L Q[i].1.id due (p + 1)) (p + 1) w3 := by
  obtain ⟨R, r1, r2, r3, r4, r5⟩ := hp
  have hmm : (Q.set i (⟨Q[i].1.id, due, p + 1⟩, Q[i].2)).map (·.2) = Q.map (·.2) := by
    rw [List.map_set]
    apply List.ext_getElem
    · simp
    · intro k hk1 hk2
      rw [List.getElem_set]
      split
      · rename_i e; subst e; simp
      · rfl
  have hbb : blksQ qb (Q.set i (⟨Q[i].1.id, due, p + 1⟩, Q[i].2)) = blksQ qb Q := by unfold blksQ; rw [hmm]
  rw [hbb] at r5
  have hsub : ∀ y ∈ blksQ qb R, y ∈ blksQ qb Q := by
    intro y hy
    have := (blks_perm r2 y).1 hy
    rwa [hbb] at this
  have hne : tb ∉ blksQ qb Q := fun hh => h.out (hbF tb hh)
  have hlen : R.length = Q.length := by rw [r2.length_eq]; simp
  have hgF : Q[i].2 ∈ F := hbF _ (by simp only [blksQ, List.mem_cons, List.mem_map]; exact .inr ⟨Q[i], List.getElem_mem _, rfl⟩)
  have s1 := hc.size
  have s2 := r5.size
  refine ⟨F, ⟨mv, some ⟨qb, 0, none⟩, n, c, R, ⟨hh.chg r5 hne, ⟨by rw [hlen]; exact h.qs.1, h.qs.2.1, .inr ⟨qb, rfl, hcm, r1.q, fun y hy => hbF y (hsub y hy)⟩⟩, r3, ?_, ?_, h.out, fun y hy => by have := h.low y hy; omega, h.ok.put ?_ h2⟩⟩, fun y hy => .inl hy, ?_⟩
  · have e1 : (itsQ R).Perm ((itsQ Q).set i ⟨Q[i].1.id, due, p + 1⟩) := by
      have := r2.map (·.1)
      rw [List.map_set] at this
      exact this
    have hil : i < (itsQ Q).length := by simpa [itsQ] using hi
    have e2 := perm_set hil h.perm h.ok.ids ⟨Q[i].1.id, due, p + 1⟩
    have e3 : (itsQ Q)[i] = Q[i].1 := by simp [itsQ]
    rw [e3] at e2
    exact e1.trans e2
  · rcases h.map with ⟨_, e⟩ | ⟨mb, k, f, hmv, hmap, hkp, hmF, hF⟩
    · rw [e] at hi; simp at hi
    · have hmQ := hmap.notQ hq
      have hmt := hmap.notT h.head
      refine .inr ⟨mb, k, f, hmv, (hmap.chg hc ?_).chg r5 hmQ, by omega, hmF, (hF.set hi (y := (⟨Q[i].1.id, due, p + 1⟩, Q[i].2)) rfl rfl).perm r2⟩
      simp only [List.mem_cons, List.mem_nil_iff, or_false, not_or]
      exact ⟨hmt, fun e => hmQ (by simp only [blksQ, List.mem_cons, List.mem_map]; exact .inr ⟨Q[i], List.getElem_mem _, e.symm⟩)⟩
  · exact h.ok.idI _ (h.mem (List.getElem_mem hi))
  · refine (hc.mono ?_).trans (r5.mono fun y hy => List.mem_cons_of_mem _ (hbF y hy))
    intro y hy
    simp only [List.mem_cons, List.mem_nil_iff, or_false] at hy
    rcases hy with e | e
    · simp [e]
    · rw [e]; exact List.mem_cons_of_mem _ hgF

end Go.Proofs.Ytlkhaookdmgbnaa
