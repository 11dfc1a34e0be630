/- The document's book: Back. -/
import Derived.Test.YtdbannnbbngckaaRefE
namespace Go.Proofs.Ytdbannnbbngckaa
open Go.RowKit

def RBackR (b r L R : Nat) (us : List Up) (now : Int) (w : World) (v i : Value) (wr : World) : Prop :=
  ∃ k : Nat, k ≤ us.length ∧ i = .int .i64 k ∧ OwnI w.heap.size wr v (idxN (Up.over now) 0 (us.take k)) ∧ RBook wr b r L R (mix (Up.backS L now) us k) ∧ Chg [r] w wr
def RBackPost (b r L R : Nat) (l : List Nat) (vs : List Up) (w : World) (e : Ending) (w' : World) : Prop := ∃ a c, e = .returned (.slice a l.length c) ∧ OwnI w.heap.size w' (.slice a l.length c) l ∧ RBook w' b r L R vs ∧ Chg [r] w w'

set_option maxRecDepth 100000 in
set_option maxHeartbeats 4000000 in
theorem rback_any (b r L R : Nat) (us : List Up) (now : Int) (w : World) (h : RBook w b r L R us) (l : List Nat) (hl : Hid (backI now us = l)) :
    Calls Try.prog 42 #[.pointer (some ⟨b, 0, none⟩), .int .i64 now] w (RBackPost b r L R l (backB L now us) w) := by
  have hlen := h.len
  have hrb := h.ltr
  have hbw := h.lt
  have hLL := h.hL
  have hbr : b ≠ r := Ne.symm h.ne
  obtain ⟨i0, hi0, hz0, hz1, hz2⟩ := info_parts Try.elemInt
  go_enter Try.func42, Try.ntmps42
  go_wp2
  go_loopw [5, 6] (RBackR b r L R us now w) (fun _ i _ => us.length - (intOf i).toNat)
  case atStart => exact ⟨0, Nat.zero_le _, rfl, ⟨rfl, .inl ⟨rfl, rfl⟩⟩, by rw [mix_zero]; exact h, Chg.refl _ _⟩
  case round =>
    obtain ⟨k, hk, rfl, hown, hbk, hC⟩ := hrel
    have hle := idx_le (Up.over now) us k
    obtain ⟨cap, hcap, c2⟩ := hbk.c2
    rw [mix_len] at c2 hcap
    by_cases hlt : k < us.length
    · have hst := idx_step (Up.over now) us k hlt
      obtain ⟨m, hm⟩ : ∃ l, l = idxN (Up.over now) 0 (us.take k) := ⟨_, rfl⟩
      rw [← hm] at hst hown hle
      obtain ⟨av, cv, hv⟩ := owns_len hown
      have hni : (k : Int) < (us.length : Int) := by omega
      have hkm : k < (mix (Up.backS L now) us k).length := by rw [mix_len]; exact hlt
      obtain ⟨o0, o1, o2, o3, o4, o5, o6⟩ := hbk.row.one k hkm
      have hok := h.ok _ (List.getElem_mem hlt)
      rw [mix_get _ _ _ hlt] at o0 o1 o2 o3 o4 o5 o6
      have hms := mix_succ (Up.backS L now) us k hlt
      have hmo := @over_mix L now us k hlt
      have hmg := mix_get? (Up.backS L now) us k hlt
      have hmL := mix_len (Up.backS L now) us k
      obtain ⟨p, hp⟩ : ∃ p, p = us[k] := ⟨_, rfl⟩
      obtain ⟨vs, hvs⟩ : ∃ vs, vs = mix (Up.backS L now) us k := ⟨_, rfl⟩
      rw [← hvs] at hbk hms hmg hmo hmL
      rw [← hp] at o0 o1 o2 o3 o4 o5 o6 hst hok hms hmo hmg
      have htil := hok.til
      have hkv : k < vs.length := by rw [hmL]; exact hlt
      have HST := Lib.hid hst
      have HOWN := Lib.hid hown
      have HMS := Lib.hid hms
      have HMO := Lib.hid hmo
      have HMG : Hid (vs[k] = p) := Lib.hid (by rw [List.getElem?_eq_getElem hkv] at hmg; exact Option.some.inj hmg)
      have HML := Lib.hid hmL
      have HKV1 : Hid (∀ x : Up, k < (vs.set k x).length) := Lib.hid (fun x => by simpa using hkv)
      clear hst hm hown hms hmo hmg hmL hkm hvs hp
      rw [hv] at HOWN ⊢
      clear hv
      by_cases hov : p.over now = true
      · have hr : p.rests = true := by unfold Up.over at hov; simp at hov; exact hov.1
        have hn : (p.til : Int) ≤ now := by unfold Up.over at hov; simp at hov; exact hov.2
        have HOV := Lib.hid hov
        have f4 := hbk.row.fr (k * 7 + 4)
        have f6 := hbk.row.fr (k * 7 + 6)
        rw [hr] at o4
        clear hov hr
        go_upto_region 8 with (fail)
        refine wp_abs ?_
        intro w1 hw1
        obtain ⟨q1, hq1⟩ : ∃ q : Up, q = { p with rests := false, til := 0 } := ⟨_, rfl⟩
        have row1 : UpsAt 90 w1 r (vs.set k q1) := by
          rw [hw1, hq1]
          exact (hbk.row.upd k 4 p { p with rests := false } hkv HMG.out (by decide) _ rfl).upd2 6 _ hkv (by decide) _ rfl
        have hd1 : Chg [r] wr w1 := by rw [hw1]; exact ((Chg.refl _ _).setCell (.inl (by simp)) _).setCell (.inl (by simp)) _
        have ok1 : UpOk q1 := by rw [hq1]; exact ⟨hok.1, hok.2, hok.3, hok.4, Nat.zero_le _⟩
        have g1 : RBook w1 b r L R (vs.set k q1) := hbk.to hd1 (by simp) (allOk_set hbk.ok ok1) row1
        have HQ1 := Lib.hid hq1
        clear hw1 hq1 row1 o0 o1 o2 o3 o4 o5 o6 f4 f6 c2 hcap
        refine region_tail 11 (by kernel_rfl) (by kernel_rfl) ?_
        intro v1 hv1
        have hd2 : Chg [r] wr v1 := by rw [hv1]; exact hd1.drew
        have g2 : RBook v1 b r L R (vs.set k q1) := by rw [hv1]; exact g1.chg ((Chg.refl [] _).drew) (by simp) (by simp)
        clear hv1 g1 hd1
        obtain ⟨cap1, hcap1, c21⟩ := g2.c2
        have c01 := g2.c0
        rw [List.length_set, HML.out] at c21 hcap1
        have o0 := (g2.row.one k (HKV1.out q1)).c0
        have o5 := (g2.row.one k (HKV1.out q1)).c5
        have f0 := g2.row.fr (k * 7)
        have f5 := g2.row.fr (k * 7 + 5)
        simp only [List.take_succ_cons, List.take_zero, List.drop_succ_cons, List.drop_zero]
        repeat still_step
        refine wpStill_nil ?_
        go_wp2_with fail
        refine calls_abs ?_
        intro w2 hw2
        obtain ⟨q3, hq3⟩ : ∃ q : Up, q = { p with rests := false, trial := true, til := 0, score := L } := ⟨_, rfl⟩
        have row2 : UpsAt 90 w2 r (vs.set k q3) := by
          rw [hw2, hq3]
          exact (g2.row.upd2 0 { p with rests := false, til := 0, score := L } hkv (by decide) _ (by rw [HQ1.out]; rfl)).upd2 5 _ hkv (by decide) _ rfl
        have hd3 : Chg [r] wr w2 := by rw [hw2]; exact (hd2.setCell (.inl (by simp)) _).setCell (.inl (by simp)) _
        have ok3 : UpOk q3 := by rw [hq3]; exact ⟨hLL, hok.2, hok.3, hok.4, Nat.zero_le _⟩
        have g3 : RBook w2 b r L R (vs.set k q3) := hbk.to hd3 (by simp) (allOk_set hbk.ok ok3) row2
        have HRET : Hid (p.ret L = q3.look L) := Lib.hid (by rw [hq3]; rfl)
        clear hw2 hq3 row2 o0 o5 f0 f5 c21 hcap1 c01 g2 hd2
        refine (rlook_any b r L R k (vs.set k q3) _ g3 (HKV1.out q3)).mono ?_
        rintro e w3 ⟨rfl, g4, hc4⟩
        rw [List.getElem_set_self, List.set_set, ← HRET.out] at g4
        have ee : vs.set k (p.ret L) = mix (Up.backS L now) us (k + 1) := by
          rw [HMS.out]; unfold Up.backS; rw [HOV.out]; rfl
        rw [ee] at g4
        have hd4 : Chg [r] wr w3 := hd3.trans hc4
        have hC4 : Chg [r] w w3 := hC.trans hd4
        have own4 : OwnI w.heap.size w3 (.slice av m.length cv) m := owns_chg HOWN.out hd4 (by simpa using hrb)
        have HOWN2 := Lib.hid own4
        clear ee own4 hd4 hd3 hc4 g3 hbk HOWN hC
        go_wp2_with (at_builtin; go_must (refine wpList_append_own _ rfl _ _ 32 rfl w.heap.size 3 i0 (.int .i64 0) 1 8 Try.underlying32 hi0 hz0 hz1 hz2 rfl (by decide) _ m.length _ rfl (HOWN2.out.alloc _) ⟨w3.heap.size, 0, none⟩ 1 1 [.int .i64 (k : Nat)] rfl rfl (cell_one_new _ _ _) (by simp [Value.oneCell']) (by unfold maxLen; omega) (by omega) (by have := hC4.size; simp; omega) ?_); go_must (intro v5 w5 hown5 hg5 _; have b5 := book_grown (g4.chg ((Chg.refl [] _).alloc (.cells #[.int .i64 (k : Nat)] 3)) (by simp) (by simp)) hg5 (owns_block HOWN2.out) hbw hrb; have hC5 : Chg [r] w w5 := (hC4.alloc (.cells #[.int .i64 (k : Nat)] 3)).grown hg5 (owns_blockS HOWN2.out (Nat.le_refl _))))
        go_roundw
        case rel =>
          refine ⟨k + 1, hlt, by go_num, ?_, b5, hC5⟩
          rw [HST.out, HOV.out, if_pos rfl]
          exact OwnI.snoc hown5
        case measure => simp [intOf] <;> omega
      · have hov' : p.over now = false := by simpa using hov
        have HOV := Lib.hid hov'
        clear hov
        by_cases hr : p.rests = true
        · have hn : ¬ (p.til : Int) ≤ now := by intro hh; unfold Up.over at hov'; simp [hr, hh] at hov'
          have dn : decide ((p.til : Int) ≤ now) = false := by simpa using hn
          rw [hr] at o4
          clear hov' hr hn
          go_wp2
          go_roundw
          case rel =>
            refine ⟨k + 1, hlt, by go_num, ?_, ?_, hC⟩
            · rw [HST.out, HOV.out, if_neg (by decide), List.append_nil]; exact HOWN.out
            · rw [HMO.out HOV.out]; exact hbk
          case measure => simp [intOf] <;> omega
        · have hr' : p.rests = false := by simpa using hr
          rw [hr'] at o4
          clear hov' hr hr'
          go_wp2
          go_roundw
          case rel =>
            refine ⟨k + 1, hlt, by go_num, ?_, ?_, hC⟩
            · rw [HST.out, HOV.out, if_neg (by decide), List.append_nil]; exact HOWN.out
            · rw [HMO.out HOV.out]; exact hbk
          case measure => simp [intOf] <;> omega
    · obtain rfl : k = us.length := by omega
      rw [List.take_of_length_le (Nat.le_refl _), show idxN (Up.over now) 0 us = l from hl.out] at hown
      rw [mix_all] at hbk
      obtain ⟨av, cv, rfl⟩ := owns_len hown
      have HOWN := Lib.hid hown
      clear hown
      go_wp2
      go_ret
      exact ⟨_, _, rfl, HOWN.out, hbk, hC⟩

end Go.Proofs.Ytdbannnbbngckaa
