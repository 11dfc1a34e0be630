/- Timers: the walk of Put. -/
import Derived.Test.YtlkhaookdmgbnaaTimH
namespace Go.Proofs.Ytlkhaookdmgbnaa
open Go.RowKit

theorem put_nil (id due : Int) (w : World) :
    Calls Try.prog 17 #[.pointer none, .int .i64 id, .int .i64 due] w fun e w' => e = .returned (.int .i64 2) ∧ w = w' := by
  go_enter Try.func17, Try.ntmps17
  go_wp2
  go_ret
  exact ⟨rfl, rfl⟩

set_option maxRecDepth 100000 in
set_option maxHeartbeats 4000000 in
theorem put_old (tb : Nat) (F : List Nat) (L : List It) (p : Nat) (x : It) (due : Int) (w : World) (h : TimersAt w tb F L p) (hx : x ∈ L) (hdue : InI due) (hp : p ≤ 1000000) :
    Calls Try.prog 17 #[.pointer (some ⟨tb, 0, none⟩), .int .i64 x.id, .int .i64 due] w fun e w' => e = .returned (.int .i64 0) ∧ PutAt w tb F (putL L x.id due (p + 1)) (p + 1) w' := by
  obtain ⟨mv, a, n, c, Q, h⟩ := h
  obtain ⟨i, hi, hQ⟩ := h.of_mem hx
  have hidI := h.ok.idI x hx
  obtain ⟨hn, hnc, hqq⟩ := h.qs
  have hnp : n ≤ p := by rw [h.len]; exact h.ok.len
  rcases hqq with ⟨_, e, _⟩ | ⟨qb, rfl, hcm, hq, hbF⟩
  · omega
  have hne : tb ∉ blksQ qb Q := fun hh => h.out (hbF tb hh)
  have hgm : Q[i].2 ∈ blksQ qb Q := by simp only [blksQ, List.mem_cons, List.mem_map]; exact .inr ⟨Q[i], List.getElem_mem _, rfl⟩
  have hh1 : HeadAt (w.setCell ⟨tb, 2, none⟩ (.int .u64 ((p : Int) + 1))) tb mv (.slice (some ⟨qb, 0, none⟩) n c) (p + 1) := h.head.set2 (p + 1)
  have hc1 : Chg [tb] w (w.setCell ⟨tb, 2, none⟩ (.int .u64 ((p : Int) + 1))) := Chg.set1 _ _ _ _
  have hm1 : MapQ (w.setCell ⟨tb, 2, none⟩ (.int .u64 ((p : Int) + 1))) mv p F Q := h.map.chg hc1 fun mb _ _ _ hm => by simp; intro e; exact h.out (e ▸ hm)
  have hl := hm1.look hidI (List.getElem_mem hi) (by rw [hQ])
  have hq2 := hq.reset hi hne (.int .u64 ((p : Int) + 1)) due (p + 1)
  have htg : tb ≠ Q[i].2 := fun e => hne (e ▸ hgm)
  have hh2 : HeadAt (((w.setCell ⟨tb, 2, none⟩ (.int .u64 ((p : Int) + 1))).setCell ⟨Q[i].2, 1, none⟩ (.int .i64 due)).setCell ⟨Q[i].2, 2, none⟩ (.int .u64 ((p + 1 : Nat) : Int))) tb mv (.slice (some ⟨qb, 0, none⟩) n c) (p + 1) := by
    unfold HeadAt at hh1 ⊢
    rw [heap_set_other _ htg, heap_set_other _ htg]
    exact hh1
  have hc2 : Chg [tb, Q[i].2] w (((w.setCell ⟨tb, 2, none⟩ (.int .u64 ((p : Int) + 1))).setCell ⟨Q[i].2, 1, none⟩ (.int .i64 due)).setCell ⟨Q[i].2, 2, none⟩ (.int .u64 ((p + 1 : Nat) : Int))) := (((Chg.refl _ w).setCell (.inl (by simp)) _).setCell (.inl (by simp)) _).setCell (.inl (by simp)) _
  have hit := h.qs.item hi
  have k1 := hit.c1
  have k2 := hit.c2
  have k3 := hit.c3
  have f1 := hit.fr 1
  have f2 := hit.fr 2
  have c0 := h.head.c0
  have c1 := h.head.c1
  have c2 := h.head.c2
  have f0 := h.head.fr 2
  have HD : Hid (DownW (itsQ (Q.set i (⟨Q[i].1.id, due, p + 1⟩, Q[i].2))) n i) := Lib.hid (by
    refine heap_changed h.heap ?_ (by omega)
    intro k hk
    unfold itsQ
    rw [List.map_set]
    simp only [List.getD_eq_getElem?_getD, List.getElem?_set]
    rw [if_neg (Ne.symm hk)])
  have HOLD : Hid (∀ w3, HeapPost (((w.setCell ⟨tb, 2, none⟩ (.int .u64 ((p : Int) + 1))).setCell ⟨Q[i].2, 1, none⟩ (.int .i64 due)).setCell ⟨Q[i].2, 2, none⟩ (.int .u64 ((p + 1 : Nat) : Int))) tb qb c n (Q.set i (⟨Q[i].1.id, due, p + 1⟩, Q[i].2)) w3 → PutAt w tb F (putL L Q[i].1.id due (p + 1)) (p + 1) w3) := Lib.hid fun w3 hp => put_old_post h hi hq hbF hcm hdue hh2 hc2 hp
  obtain ⟨Q', hQ'⟩ : ∃ Q', Q' = Q.set i (⟨Q[i].1.id, due, p + 1⟩, Q[i].2) := ⟨_, rfl⟩
  have HLQ : Hid (n = Q'.length) := Lib.hid (by rw [hQ', List.length_set]; exact hn)
  have hne2 : tb ∉ blksQ qb Q' := by
    intro hx
    apply hne
    rw [hQ'] at hx
    rcases List.mem_cons.1 hx with e | e
    · simp [blksQ, e]
    · rw [List.map_set] at e
      rcases List.mem_or_eq_of_mem_set e with e | e
      · exact List.mem_cons_of_mem _ e
      · rw [e]; exact hgm
  rw [← hQ'] at hq2 HD HOLD
  have hcell2 := hh2.c1
  rw [← hQ]
  have HHQ : Hid (QH (((w.setCell ⟨tb, 2, none⟩ (.int .u64 ((p : Int) + 1))).setCell ⟨Q[i].2, 1, none⟩ (.int .i64 due)).setCell ⟨Q[i].2, 2, none⟩ (.int .u64 ((p + 1 : Nat) : Int))) tb qb c Q') := Lib.hid ⟨by rw [← HLQ.out]; exact hcell2, hq2, hne2⟩
  have hin : i < n := by omega
  rw [← hQ] at hl
  obtain ⟨g, hg⟩ : ∃ g, g = Q[i].2 := ⟨_, rfl⟩
  obtain ⟨id, hid⟩ : ∃ id, id = Q[i].1.id := ⟨_, rfl⟩
  rw [← hg] at hl k1 k2 k3 f1 f2 HHQ HOLD htg
  rw [← hid] at hl HOLD ⊢
  have hgt : g ≠ tb := Ne.symm htg
  have ep : ((p + 1 : Nat) : Int) = (p : Int) + 1 := by omega
  rw [ep] at HHQ HOLD
  clear h hx hQ hit hg hid hQ' hq2 hh1 hh2 hc1 hc2 hm1 hq hne hne2 hcell2 hgm hbF hn ep
  go_enter Try.func17, Try.ntmps17
  go_wp2_with fail
  go_region_with (go_at_call 28; go_must (refine (fix_any tb qb c i n Q' _ (HHQ.out.drewN 1) HLQ hin HD.out (by omega)).mono ?_; rintro e w3 ⟨rfl, hpost⟩))
  all_goals
    have HP : Hid (PutAt w tb F (putL L id due (p + 1)) (p + 1) w3) := Lib.hid (HOLD.out w3 (by
      obtain ⟨R, r1, r2, r3, r4, r5⟩ := hpost
      exact ⟨R, r1, r2, r3, r4, r5.undrew⟩))
    clear hpost
    go_wp2
    go_ret
    exact ⟨rfl, HP.out⟩

end Go.Proofs.Ytlkhaookdmgbnaa
