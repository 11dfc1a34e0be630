/- CacheReadings as plain data: a reading between, not above the next act's, changes nothing. -/
import Derived.Test.YtgdnfempcjlipaaCaD
namespace Go.Proofs.Ytgdnfempcjlipaa
open Go.RowKit Go.Maps

theorem adv_eq (c : Cst) (t : Int) : advC c t = ⟨clampT c.now t, expM c.M (clampT c.now t)⟩ := rfl
theorem clamp_two {o r t b : Int} (ho : o ≤ topT) (hr : r ≤ b) (hb : b = max o (min t topT)) : clampT (clampT o r) t = clampT o t := by unfold clampT at *; omega
theorem clamp_new {o t : Int} (ho : o ≤ topT) : clampT o t = max o (min t topT) := by unfold clampT; omega
theorem exp_exp {M : List En} {s t : Int} (h : s ≤ t) : expM (expM M s) t = expM M t := by
  unfold expM
  rw [List.filter_filter]
  apply List.filter_congr
  intro e _
  rw [Bool.eq_iff_iff, Bool.and_eq_true, decide_eq_true_eq, decide_eq_true_eq]
  constructor
  · exact fun h => h.1
  · exact fun h2 => ⟨h2, by omega⟩
/-- A reading between changes nothing of what the next act sees. -/
theorem adv_adv {c : Cst} {r t b : Int} (ho : c.now ≤ topT) (hr : r ≤ b) (hb : b = max c.now (min t topT)) : advC (advC c r) t = advC c t := by
  have e := clamp_two ho hr hb
  rw [adv_eq (advC c r) t, adv_eq c t]
  have e1 : (advC c r).now = clampT c.now r := rfl
  have e2 : (advC c r).M = expM c.M (clampT c.now r) := rfl
  rw [e1, e2, e, exp_exp]
  unfold clampT at *
  omega
theorem keep_adv {n : Nat} {c : Cst} {q : Qn} {v : Ver} {life t r b : Int} (ho : c.now ≤ topT) (hr : r ≤ b) (hb : b = max c.now (min t topT)) (hok : okK q life = true) : keepC n (advC c r) q v life t = keepC n c q v life t := by
  unfold keepC
  rw [if_pos hok, if_pos hok, adv_adv ho hr hb]
theorem find_adv {c : Cst} {q : Qn} {t r b : Int} (ho : c.now ≤ topT) (hr : r ≤ b) (hb : b = max c.now (min t topT)) : findC (advC c r) q t = findC c q t := by
  unfold findC
  rw [adv_adv ho hr hb]
theorem got_adv {c : Cst} {q : Qn} {t r b : Int} (ho : c.now ≤ topT) (hr : r ≤ b) (hb : b = max c.now (min t topT)) : gotC (advC c r) q t = gotC c q t := by
  unfold gotC
  rw [adv_adv ho hr hb]
theorem now_keep {n : Nat} {c : Cst} {q : Qn} {v : Ver} {life t : Int} (ho : c.now ≤ topT) (hok : okK q life = true) : (keepC n c q v life t).now = max c.now (min t topT) := by
  unfold keepC
  rw [if_pos hok]
  exact clamp_new ho
theorem now_find {c : Cst} {q : Qn} {t : Int} (ho : c.now ≤ topT) : (findC c q t).now = max c.now (min t topT) := by
  unfold findC
  split
  · exact clamp_new ho
  · exact clamp_new ho
theorem now_adv {c : Cst} {t : Int} (ho : c.now ≤ topT) : (advC c t).now = max c.now (min t topT) := clamp_new ho
theorem clampT_top {o b : Int} (h1 : o ≤ b) (h2 : b ≤ topT) : clampT o b = b := clamp_up h1 h2
theorem mem_useM {M : List En} {q : Qn} {y : En} (h : y ∈ useM M q) : y ∈ M := by
  unfold useM at h
  split at h
  · rename_i e he
    rcases List.mem_append.1 h with h | h
    · exact (mem_dropM.1 h).1
    · simp at h
      subst h
      exact (getM_some he).1
  · exact h
/-- What was found is there no more behind its life. -/
theorem got_late {n : Nat} {c : Cst} {q : Qn} {t : Int} {e : En} (hO : OkM n c) (hg : gotC c q t = some e) (ht : e.til ≤ topT) : gotC (findC c q t) q e.til = none := by
  unfold gotC at hg
  split at hg
  · rename_i hm
    obtain ⟨h1, h2⟩ := getM_some hg
    have hO1 := hO.adv t
    have hl := (hO1.til e h1).1
    refine got_none_of (e := e) hm h2.symm ?_ ?_ ht (Int.le_refl _)
    · intro y hy hq
      unfold findC at hy
      rw [if_pos hm] at hy
      exact inj_of_nodup hO1.nd (mem_useM hy) h1 hq
    · unfold findC
      rw [if_pos hm]
      exact Int.le_of_lt hl
  · cases hg
theorem got_left {n : Nat} {c : Cst} {q : Qn} {t : Int} {e : En} (hO : OkM n c) (hg : gotC c q t = some e) : 1 ≤ e.til - (advC c t).now ∧ e.til ≤ 2 * topT := by
  unfold gotC at hg
  split at hg
  · have := (hO.adv t).til e (getM_some hg).1
    omega
  · cases hg

end Go.Proofs.Ytgdnfempcjlipaa
