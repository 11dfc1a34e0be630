/- The walks of package repute: step; Agree, Dissent, Silent. -/
import Derived.Test.YtdbannnbbngckaaRepA
namespace Go.Proofs.Ytdbannnbbngckaa
open Go.RowKit

/-- A region that draws, reads and calls quietly, and ends in a forced tail; its world under a name. -/
theorem region_tail {P : Program} {id : Nat} {Q : Exit → Act → World → Prop} {a : Act} {w : World} {l : List Oper} (n : Nat) (hm : P.follows .mixedOrders = true) (hB : Region.lexTailB .any l.toArray n = true)
    (h : ∀ w2, w2 = w.drew → wpStill P l.toArray w2 (fun a' => wpList P l.toArray Q (l.drop n) a' w2) (l.take n) a) : (Code.region id l.toArray true).wp P Q a w :=
  wp_region_still_tail n hm hB (h _ rfl)

theorem bound_q (b r L R : Nat) (us : List Up) (w : World) (h : Book w b r L R us) :
    Calls Try.prog 51 #[.pointer (some ⟨b, 0, none⟩)] w fun e w' => e = .returned (.int .i64 (bnd L : Nat)) ∧ w' = w :=
  (bound_any b r L R us w h).mono fun _ _ hh => ⟨hh.1, hh.2.symm⟩

theorem look_yes {L : Nat} {p : Up} (h : bnd L ≤ p.score) : p.look L = { p with trial := false } := by unfold Up.look; rw [if_pos h]
theorem look_no {L : Nat} {p : Up} (h : ¬ bnd L ≤ p.score) : p.look L = p := by unfold Up.look; rw [if_neg h]
theorem set_same (us : List Up) (u : Nat) (h : u < us.length) : us.set u us[u] = us := by simp

set_option maxRecDepth 100000 in
set_option maxHeartbeats 1000000 in
theorem step_climb (b r L R u : Nat) (us : List Up) (now : Int) (w : World) (h : Book w b r L R us) (hu : u < us.length) :
    Calls Try.prog 35 #[.pointer (some ⟨b, 0, none⟩), .int .i64 u, .int .i64 1, .int .i64 now] w fun e w' => e = .returned (.tuple #[]) ∧ UpsAt 63 w' r (us.set u (us[u].look L)) ∧ Chg [r] w w' := by
  obtain ⟨cap, hcap, c2⟩ := h.c2
  obtain ⟨p, hp⟩ : ∃ p, p = us[u] := ⟨_, rfl⟩
  have o0 := (h.row.one u hu).c0
  rw [← hp] at o0 ⊢
  have hni : (u : Int) < (us.length : Int) := by omega
  have HP := Lib.hid hp
  have hb100 : bnd L ≤ 100 := by unfold bnd; omega
  obtain ⟨B, hB⟩ : ∃ B, B = bnd L := ⟨_, rfl⟩
  have Q := bound_q b r L R us
  rw [← hB] at Q hb100
  have QQ := Lib.hid Q
  have HB := Lib.hid hB
  clear hp Q hB
  by_cases hle : B ≤ p.score
  · go_enter Try.func35, Try.ntmps35
    go_wp2
    refine region_tail 6 (by kernel_rfl) (by kernel_rfl) ?_
    intro v0 hv0
    have hC : Chg [r] w v0 := by rw [hv0]; exact (Chg.refl _ _).drew
    have h0 : Book v0 b r L R us := by rw [hv0]; exact h.chg ((Chg.refl [] _).drew) (by simp) (by simp)
    clear hv0
    obtain ⟨cap0, hcap0, c20⟩ := h0.c2
    have o00 := (h0.row.one u hu).c0
    have o05 := (h0.row.one u hu).c5
    have fr := h0.row.fr (u * 7 + 5)
    rw [← HP.out] at o00 o05
    simp only [List.take_succ_cons, List.take_zero, List.drop_succ_cons, List.drop_zero]
    repeat still_step
    still_call (QQ.out v0 h0)
    repeat still_step
    refine wpStill_nil ?_
    go_wp2
    go_end0
    refine ⟨rfl, ?_, hC.setCell (.inl (by simp)) _⟩
    rw [look_yes (by rw [← HB.out]; exact hle)]
    exact h0.row.upd u 5 p _ hu HP.out.symm (by decide) _ rfl
  · have hd : decide (B ≤ p.score) = false := by simpa using hle
    go_enter Try.func35, Try.ntmps35
    go_wp2
    refine region_tail 6 (by kernel_rfl) (by kernel_rfl) ?_
    intro v0 hv0
    have hC : Chg [r] w v0 := by rw [hv0]; exact (Chg.refl _ _).drew
    have h0 : Book v0 b r L R us := by rw [hv0]; exact h.chg ((Chg.refl [] _).drew) (by simp) (by simp)
    clear hv0
    have o00 := (h0.row.one u hu).c0
    rw [← HP.out] at o00
    simp only [List.take_succ_cons, List.take_zero, List.drop_succ_cons, List.drop_zero]
    repeat still_step
    still_call (QQ.out v0 h0)
    repeat still_step
    refine wpStill_nil ?_
    go_wp2
    go_end0
    refine ⟨rfl, ?_, hC⟩
    rw [look_no (by rw [← HB.out]; exact hle), HP.out, set_same us u hu]
    exact h0.row

theorem UpsAt.upd2 {T : TypeId} {w : World} {r : Nat} {us : List Up} {u : Nat} {p : Up} (h : UpsAt T w r (us.set u p)) (j : Nat) (q : Up) (hu : u < us.length) (hj : j < 7) (v : Value) (hq : upV q = (upV p).set j v) : UpsAt T (w.setCell ⟨r, u * 7 + j, none⟩ v) r (us.set u q) := by
  have := h.upd u j p q (by simpa using hu) (by simp) hj v hq
  rwa [List.set_set] at this
theorem modify_set (us : List Up) (u : Nat) (f : Up → Up) (h : u < us.length) : us.modify u f = us.set u (f us[u]) := by
  apply List.ext_getElem (by simp)
  intro i h1 h2
  rw [List.getElem_modify, List.getElem_set]
  split
  · rename_i e; subst e; rfl
  · rfl
theorem othN_set (us : List Up) (u : Nat) (q : Up) (h : u < us.length) : othN u 0 (us.set u q) = othN u 0 us := by
  have := othN_modify u (fun _ => q) us 0 u (by omega)
  rwa [modify_set us u _ h] at this
theorem allOk_set {us : List Up} {u : Nat} {q : Up} (h : AllOk us) (hq : UpOk q) : AllOk (us.set u q) := by
  intro x hx
  rcases List.mem_or_eq_of_mem_set hx with hx | rfl
  · exact h x hx
  · exact hq

set_option maxRecDepth 100000 in
set_option maxHeartbeats 2000000 in
theorem step_ret (b r L R u : Nat) (us : List Up) (now : Int) (w : World) (h : Book w b r L R us) (hu : u < us.length) :
    Calls Try.prog 35 #[.pointer (some ⟨b, 0, none⟩), .int .i64 u, .int .i64 0, .int .i64 now] w fun e w' => e = .returned (.tuple #[]) ∧ UpsAt 63 w' r (us.set u (us[u].ret L)) ∧ Chg [r] w w' := by
  obtain ⟨cap, hcap, c2⟩ := h.c2
  have c0 := h.c0
  obtain ⟨p, hp⟩ : ∃ p, p = us[u] := ⟨_, rfl⟩
  obtain ⟨o0, o1, o2, o3, o4, o5, o6⟩ := h.row.one u hu
  rw [← hp] at o0 o1 o2 o3 o4 o5 o6 ⊢
  have hni : (u : Int) < (us.length : Int) := by omega
  have f0 := h.row.fr (u * 7)
  have f4 := h.row.fr (u * 7 + 4)
  have f5 := h.row.fr (u * 7 + 5)
  have f6 := h.row.fr (u * 7 + 6)
  have hbr : b ≠ r := Ne.symm h.ne
  have HP := Lib.hid hp
  have hL := h.hL
  have hb100 : bnd L ≤ 100 := by unfold bnd; omega
  obtain ⟨B, hB⟩ : ∃ B, B = bnd L := ⟨_, rfl⟩
  have HB := Lib.hid hB
  have hok : UpOk p := by rw [hp]; exact h.ok _ (List.getElem_mem hu)
  obtain ⟨p4, hp4⟩ : ∃ p4 : Up, p4 = { p with rests := false, trial := true, til := 0, score := L } := ⟨_, rfl⟩
  have hp4s : p4.score = L := by rw [hp4]
  have HP4 := Lib.hid hp4
  have ok4 : UpOk p4 := by rw [hp4]; exact ⟨hL, hok.2, hok.3, hok.4, Nat.zero_le _⟩
  have Q := bound_q b r L R (us.set u p4)
  rw [← hB] at Q hb100
  have QQ := Lib.hid Q
  have HRET : Hid (p.ret L = p4.look L) := Lib.hid (by rw [hp4]; rfl)
  have HS4 := Lib.hid hp4s
  clear hp hB hp4 Q hp4s
  go_enter Try.func35, Try.ntmps35
  go_upto_region 8 with (fail)
  refine wp_abs ?_
  intro w1 hw1
  have hrow : UpsAt 63 w1 r (us.set u p4) := by
    rw [hw1, HP4.out]
    exact (((h.row.upd u 4 p { p with rests := false } hu HP.out.symm (by decide) _ rfl).upd2 6 { p with rests := false, til := 0 } hu (by decide) _ rfl).upd2 5 { p with rests := false, til := 0, trial := true } hu (by decide) _ rfl).upd2 0 _ hu (by decide) _ rfl
  have hC1 : Chg [r] w w1 := by
    rw [hw1]
    iterate 4 (refine Chg.setCell ?_ (.inl (by simp)) _)
    exact Chg.refl _ _
  have h1 : Book w1 b r L R (us.set u p4) := h.to hC1 (by simp) (allOk_set h.ok ok4) hrow
  have hu1 : u < (us.set u p4).length := by simpa using hu
  clear hw1 o0 o1 o2 o3 o4 o5 o6 f0 f4 f5 f6 c0 c2 hrow
  refine region_tail 6 (by kernel_rfl) (by kernel_rfl) ?_
  intro v0 hv0
  have hC : Chg [r] w v0 := by rw [hv0]; exact hC1.drew
  have h0 : Book v0 b r L R (us.set u p4) := by rw [hv0]; exact h1.chg ((Chg.refl [] _).drew) (by simp) (by simp)
  clear hv0
  have o0 := (h0.row.one u hu1).c0
  have o5 := (h0.row.one u hu1).c5
  have f5 := h0.row.fr (u * 7 + 5)
  rw [List.getElem_set_self, HS4.out] at o0
  rw [List.getElem_set_self] at o5
  by_cases hle : B ≤ L
  · simp only [List.take_succ_cons, List.take_zero, List.drop_succ_cons, List.drop_zero]
    repeat still_step
    still_call (QQ.out v0 h0)
    repeat still_step
    refine wpStill_nil ?_
    go_wp2
    go_end0
    refine ⟨rfl, ?_, hC.setCell (.inl (by simp)) _⟩
    rw [HRET.out, look_yes (by rw [← HB.out, HS4.out]; exact hle)]
    exact h0.row.upd2 5 _ hu (by decide) _ rfl
  · have hd : decide (B ≤ L) = false := by simpa using hle
    simp only [List.take_succ_cons, List.take_zero, List.drop_succ_cons, List.drop_zero]
    repeat still_step
    still_call (QQ.out v0 h0)
    repeat still_step
    refine wpStill_nil ?_
    go_wp2
    go_end0
    refine ⟨rfl, ?_, hC⟩
    rw [HRET.out, look_no (by rw [← HB.out, HS4.out]; exact hle)]
    exact h0.row

end Go.Proofs.Ytdbannnbbngckaa
