/- Several caches of the call's own, side by side: what each act makes of them, and what it leaves. -/
import Derived.Test.YtgdnfempcjlipaaCacU
namespace Go.Proofs.Ytgdnfempcjlipaa
open Go.RowKit Go.Maps

/-- The types of a cache's blocks. -/
def cacheTys : List (Option TypeId) := [none, some 70, some 78, some 108, some 113, some 114, some 117, some 3]
theorem CA.tys {F : List Nat} {w : World} {cb n k0 k1 : Nat} {c : Cst} {P : Nat} (h : CA F w cb n k0 k1 c P) : ∀ y ∈ F, ty? w y ∈ cacheTys := by
  obtain ⟨L, p, m, ⟨K, T, ⟨eb, mb, lb, tb, cp, tl, FT, f, es, hC, hF⟩, _⟩, _⟩ := h
  intro y hy
  rcases (hF y).1 hy with e | e | e | e | e | e | e
  · rw [e, hC.tcb]; simp [cacheTys]
  · rw [e, hC.teb]; simp [cacheTys]
  · rw [e, hC.tmb]; simp [cacheTys]
  · rw [e, hC.tlb]; simp [cacheTys]
  · rw [e, hC.ttb]; simp [cacheTys]
  · rcases hC.ftt y e with e | e | e <;> rw [e] <;> simp [cacheTys]
  · rw [(hC.rows.ty e).1]; simp [cacheTys]
/-- Just blocks of caches turn. -/
def CChg (wr w' : World) : Prop := ∃ S, Chg S wr w' ∧ ∀ k ∈ S, ty? wr k ∈ cacheTys
theorem Chg.cchg {wr w' : World} (h : Chg [] wr w') : CChg wr w' := ⟨[], h, by simp⟩
theorem CChg.keep {wr w' : World} (h : CChg wr w') {b : Nat} {c : Array Value} {t : TypeId} {f : Nat × Nat} (hb : wr.heap[b]? = some (.cells c t f)) (ht : (cacheTys.contains (some t)) = false) : w'.heap[b]? = some (.cells c t f) := by
  obtain ⟨S, hc, hS⟩ := h
  refine hc.keep hb fun hs => ?_
  have := hS b hs
  rw [ty_cells hb] at this
  have h2 : cacheTys.contains (some t) = true := by rw [List.contains_iff_mem]; exact this
  rw [h2] at ht
  cases ht
theorem CChg.size {wr w' : World} (h : CChg wr w') : wr.heap.size ≤ w'.heap.size := by obtain ⟨S, hc, _⟩ := h; exact hc.size
theorem CChg.ownR {wr w' : World} (h : CChg wr w') {α : Type} {t : TypeId} {sz : Nat} {f : α → List Value} {base : Nat} {v : Value} {l : List α} (ho : R.OwnR t sz f base wr v l) (ht : (cacheTys.contains (some t)) = false) : R.OwnR t sz f base w' v l := by
  refine ho.keep fun g hg => ?_
  obtain ⟨_, _, c, hc⟩ := ho.blk g hg
  rw [hc]
  exact h.keep hc ht
theorem CChg.noSet {wr : World} {S : List Nat} (hS : ∀ k ∈ S, ty? wr k ∈ cacheTys) : NoSet S wr := noSet_of fun k hk => by
  have := hS k hk
  constructor
  · intro e; rw [e] at this; revert this; decide
  · intro e; rw [e] at this; revert this; decide
theorem CChg.ownV {wr w' : World} (h : CChg wr w') {base : Nat} {code : Int} {sv ov : Value} {v : Ver} (ho : OwnV base wr code sv ov v) : OwnV base w' code sv ov v := by
  obtain ⟨S, hc, hS⟩ := h
  exact ho.chg hc (CChg.noSet hS)

/-- A cache, where it lies. -/
structure Chn where
  cb : Nat
  n : Nat
  k0 : Nat
  k1 : Nat
  c : Cst
def Chn.put (x : Chn) (c : Cst) : Chn := ⟨x.cb, x.n, x.k0, x.k1, c⟩
structure CabsS (Fs : Nat → List Nat) (w wr : World) (P : Nat) (T : List Chn) : Prop where
  ca : ∀ (i : Nat) (x : Chn), T[i]? = some x → CA (Fs i) wr x.cb x.n x.k0 x.k1 x.c P
  lo : ∀ i, i < T.length → ∀ y ∈ Fs i, w.heap.size ≤ y
  dj : ∀ i j, i < T.length → j < T.length → i ≠ j → ∀ y ∈ Fs i, y ∉ Fs j
  chg : Chg [] w wr
/-- Caches that lie apart, each of its own blocks. -/
def Cabs (w wr : World) (P : Nat) (T : List Chn) : Prop := ∃ Fs, CabsS Fs w wr P T
theorem getT {α : Type} {T : List α} {i : Nat} (h : i < T.length) : ∃ x, T[i]? = some x := ⟨T[i], by simp [h]⟩
theorem ltT {α : Type} {T : List α} {i : Nat} {x : α} (h : T[i]? = some x) : i < T.length := by
  rcases Nat.lt_or_ge i T.length with hh | hh
  · exact hh
  · rw [List.getElem?_eq_none hh] at h; cases h
section
variable {w wr w2 : World} {P Q : Nat} {T : List Chn} {Fs : Nat → List Nat}
theorem CabsS.ltw (h : CabsS Fs w wr P T) {i : Nat} (hi : i < T.length) : ∀ y ∈ Fs i, y < wr.heap.size := by
  obtain ⟨x, hx⟩ := getT hi
  exact (h.ca i x hx).low
theorem CabsS.step (h : CabsS Fs w wr P T) {i : Nat} {x : Chn} {c : Cst} (hi : T[i]? = some x) (hPQ : P ≤ Q) (k : Aft (Fs i) wr w2 fun F' => CA F' w2 x.cb x.n x.k0 x.k1 c Q) : Cabs w w2 Q (T.set i (x.put c)) ∧ CChg wr w2 := by
  obtain ⟨F2, k1, k3, k2⟩ := k
  have hil := ltT hi
  refine ⟨⟨fun j => if j = i then F2 else Fs j, ?_, ?_, ?_, ?_⟩, ⟨Fs i, k2, (h.ca i x hi).tys⟩⟩
  · intro j y hj
    by_cases e : j = i
    · subst e
      rw [List.getElem?_set_self hil] at hj
      injection hj with hj
      subst hj
      simp only [if_true]
      exact k1
    · rw [List.getElem?_set_ne (fun hh => e hh.symm)] at hj
      simp only [if_neg e]
      exact ((h.ca j y hj).other k2 (fun z hz hh => h.dj j i (ltT hj) hil e z hh hz) (h.ca i x hi).noSet).mono hPQ
  · intro j hj y hy
    rw [List.length_set] at hj
    by_cases e : j = i
    · simp only [if_pos e] at hy
      rcases k3 y hy with hh | hh
      · exact h.lo i hil y hh
      · exact Nat.le_trans h.chg.size hh
    · simp only [if_neg e] at hy
      exact h.lo j hj y hy
  · intro j k hj hk hjk y hy
    rw [List.length_set] at hj hk
    by_cases e : j = i
    · simp only [if_pos e] at hy
      have e2 : k ≠ i := fun hh => hjk (by rw [e, hh])
      simp only [if_neg e2]
      rcases k3 y hy with hh | hh
      · exact h.dj i k hil hk (fun e3 => e2 e3.symm) y hh
      · intro hh2
        have := h.ltw hk y hh2
        omega
    · simp only [if_neg e] at hy
      by_cases e2 : k = i
      · simp only [if_pos e2]
        intro hh
        rcases k3 y hh with h3 | h3
        · exact h.dj j i hj hil e y hy h3
        · have := h.ltw hj y hy
          omega
      · simp only [if_neg e2]
        exact h.dj j k hj hk hjk y hy
  · exact h.chg.trans_new k2 (fun y hy => .inr (h.lo i hil y hy))
theorem Cabs.other (h : Cabs w wr P T) {S : List Nat} (hc : Chg S wr w2) (hS : ∀ k ∈ S, w.heap.size ≤ k ∧ ∃ t, ty? wr k = some t ∧ cacheTys.contains (some t) = false ∧ t ≠ 84 ∧ t ≠ 9) : Cabs w w2 P T := by
  obtain ⟨Fs, h⟩ := h
  refine ⟨Fs, fun i x hi => (h.ca i x hi).other hc (fun y hy hF => ?_) (noSet_of fun k hk => ?_), h.lo, h.dj, h.chg.trans_new hc (fun y hy => .inr (hS y hy).1)⟩
  · obtain ⟨_, t, h1, h2, _⟩ := hS y hy
    have h3 := (h.ca i x hi).tys y hF
    rw [h1, ← List.contains_iff_mem, h2] at h3
    cases h3
  · obtain ⟨_, t, h1, _, h3, h4⟩ := hS k hk
    rw [h1]
    exact ⟨fun e => h3 (by injection e), fun e => h4 (by injection e)⟩
theorem Cabs.same (h : Cabs w wr P T) (hc : Chg [] wr w2) : Cabs w w2 P T := h.other hc (by simp)
theorem Cabs.isChg (h : Cabs w wr P T) : Chg [] w wr := by obtain ⟨_, h⟩ := h; exact h.chg
theorem Cabs.mono (h : Cabs w wr P T) (hP : P ≤ Q) : Cabs w wr Q T := by
  obtain ⟨Fs, h⟩ := h
  exact ⟨Fs, fun i x hi => (h.ca i x hi).mono hP, h.lo, h.dj, h.chg⟩
theorem Cabs.at' (h : Cabs w wr P T) {i : Nat} {x : Chn} (hi : T[i]? = some x) : ∃ F, CA F wr x.cb x.n x.k0 x.k1 x.c P := by obtain ⟨Fs, h⟩ := h; exact ⟨Fs i, h.ca i x hi⟩
theorem Cabs.ok (h : Cabs w wr P T) {i : Nat} {x : Chn} (hi : T[i]? = some x) : OkM x.n x.c := by obtain ⟨F, h⟩ := h.at' hi; exact h.ok
theorem Cabs.nil (hc : Chg [] w wr) : Cabs w wr P [] := ⟨fun _ => [], by simp, by simp, by simp, hc⟩
theorem Cabs.push (h : Cabs w wr P T) (hc : Chg [] wr w2) {F : List Nat} {x : Chn} (hF : CA F w2 x.cb x.n x.k0 x.k1 x.c P) (hge : ∀ y ∈ F, wr.heap.size ≤ y) : Cabs w w2 P (T ++ [x]) := by
  obtain ⟨Fs, h⟩ := h
  refine ⟨fun j => if j = T.length then F else Fs j, ?_, ?_, ?_, h.chg.trans hc⟩
  · intro j y hj
    by_cases e : j = T.length
    · subst e
      rw [List.getElem?_append_right (Nat.le_refl _), Nat.sub_self] at hj
      simp only [List.getElem?_cons_zero, Option.some.injEq] at hj
      subst hj
      simp only [if_true]
      exact hF
    · have hj2 := ltT hj
      rw [List.length_append, List.length_singleton] at hj2
      rw [List.getElem?_append_left (by omega)] at hj
      simp only [if_neg e]
      exact (h.ca j y hj).same hc
  · intro j hj y hy
    rw [List.length_append, List.length_singleton] at hj
    by_cases e : j = T.length
    · simp only [if_pos e] at hy
      exact Nat.le_trans h.chg.size (hge y hy)
    · simp only [if_neg e] at hy
      exact h.lo j (by omega) y hy
  · intro j k hj hk hjk y hy
    rw [List.length_append, List.length_singleton] at hj hk
    by_cases e : j = T.length
    · simp only [if_pos e] at hy
      rw [if_neg (by omega : k ≠ T.length)]
      intro hh
      have := h.ltw (by omega) y hh
      have := hge y hy
      omega
    · simp only [if_neg e] at hy
      by_cases e2 : k = T.length
      · simp only [if_pos e2]
        intro hh
        have := h.ltw (by omega) y hy
        have := hge y hh
        omega
      · simp only [if_neg e2]
        exact h.dj j k (by omega) (by omega) hjk y hy
/-- The last cache is needed no more. -/
theorem Cabs.pop {x : Chn} (h : Cabs w wr P (T ++ [x])) : Cabs w wr P T := by
  obtain ⟨Fs, h⟩ := h
  refine ⟨Fs, fun i y hi => h.ca i y ?_, fun i hi => h.lo i (by simp; omega), fun i j hi hj => h.dj i j (by simp; omega) (by simp; omega), h.chg⟩
  rw [List.getElem?_append_left (ltT hi)]
  exact hi
end
section
variable {w wr : World} {P : Nat} {T : List Chn} (h : Cabs w wr P T) {i : Nat} {x : Chn} (hi : T[i]? = some x) (hP : P ≤ 900000)
include h hi
theorem keep_c (q : Qn) (code : Int) (sa oa : Option Addr) (sn sc on oc : Nat) (v : Ver) (life t : Int) (hP : P ≤ 900000) (hq1 : q.nm.size ≤ maxLen) (hq2 : q.ty < 65536) (hq3 : q.cl < 65536)
    (hlf : -9223372036854775808 ≤ life ∧ life ≤ 9223372036854775807) (hv : RdV w code (.slice sa sn sc) (.slice oa on oc) v ∨ OwnV 0 wr code (.slice sa sn sc) (.slice oa on oc) v) (r : Int) (hr : Hid (r = if okK q life = true then 0 else 1)) :
    Calls Try.prog 11 #[.pointer (some ⟨x.cb, 0, none⟩), .agg (qV q), .agg #[.int .u8 code, .slice sa sn sc, .slice oa on oc], .int .i64 life, .int .i64 t] wr fun e w' => e = .returned (.int .i64 r) ∧ Cabs w w' (P + 1) (T.set i (x.put (keepC x.n x.c q v life t))) ∧ CChg wr w' := by
  obtain ⟨Fs, h⟩ := h
  have hca := h.ca i x hi
  refine (keep_any (Fs i) x.cb x.n x.k0 x.k1 x.c P wr q code sa oa sn sc on oc v life t hca hP hq1 hq2 hq3 hlf (fun w' hc => ?_) r hr).mono ?_
  · rcases hv with hv | hv
    · exact hv.same (h.chg.trans_new hc (fun y hy => .inr (h.lo i (ltT hi) y hy)))
    · exact (hv.chg hc hca.noSet).rd
  · rintro e w' ⟨rfl, haf⟩
    exact ⟨rfl, h.step hi (by omega) haf⟩
theorem find_c (q : Qn) (t : Int) (o : Option En) (code : Nat) (left : Int) (b : Bool) (hP : P ≤ 900000) (hq1 : q.nm.size ≤ maxLen) (hq2 : q.ty < 65536) (hq3 : q.cl < 65536)
    (ho : Hid (o = gotC x.c q t)) (hcode : Hid (code = (gotV o).code)) (hleft : Hid (left = leftV o (advC x.c t).now)) (hb : Hid (b = o.isSome)) :
    Calls Try.prog 15 #[.pointer (some ⟨x.cb, 0, none⟩), .agg (qV q), .int .i64 t] wr fun e w' => ∃ sa sn sc oa on oc, e = .returned (.tuple #[.agg #[.int .u8 (code : Nat), .slice sa sn sc, .slice oa on oc], .int .i64 left, .bool b]) ∧ OwnV wr.heap.size w' (code : Nat) (.slice sa sn sc) (.slice oa on oc) (gotV o) ∧ Cabs w w' P (T.set i (x.put (findC x.c q t))) ∧ CChg wr w' := by
  obtain ⟨Fs, h⟩ := h
  refine (find_any (Fs i) x.cb x.n x.k0 x.k1 x.c P wr q t o code left b (h.ca i x hi) hP hq1 hq2 hq3 ho hcode hleft hb).mono ?_
  rintro e w' ⟨sa, sn, sc, oa, on, oc, rfl, hov, haf⟩
  exact ⟨sa, sn, sc, oa, on, oc, rfl, hov, h.step hi (Nat.le_refl _) haf⟩
theorem finds_c (q : Qn) (now : Int) (code : Nat) (left : Int) (e : En) (hP : P ≤ 900000) (hq1 : q.nm.size ≤ maxLen) (hq2 : q.ty < 65536) (hq3 : q.cl < 65536) (hcd : code < 256)
    (hg : Hid (gotC x.c q now = some e)) (hv : Hid (e.v = saysV code)) (hl : Hid (left = e.til - (advC x.c now).now)) :
    Calls Try.prog 13 #[.pointer (some ⟨x.cb, 0, none⟩), .agg (qV q), .int .i64 now, .int .u8 (code : Nat), .int .i64 left] wr fun e w' => e = .returned (.bool true) ∧ Cabs w w' P (T.set i (x.put (findC x.c q now))) ∧ CChg wr w' := by
  obtain ⟨Fs, h⟩ := h
  refine (finds_true (Fs i) x.cb x.n x.k0 x.k1 x.c P q now code left e wr (h.ca i x hi) hP hq1 hq2 hq3 hcd hg hv hl).mono ?_
  rintro e w' ⟨rfl, haf⟩
  exact ⟨rfl, h.step hi (Nat.le_refl _) haf⟩
theorem expire_c (t : Int) (r : Nat) (hP : P ≤ 900000) (hr : Hid (r = x.c.M.length - (advC x.c t).M.length)) :
    Calls Try.prog 20 #[.pointer (some ⟨x.cb, 0, none⟩), .int .i64 t] wr fun e w' => e = .returned (.int .i64 (r : Nat)) ∧ Cabs w w' P (T.set i (x.put (advC x.c t))) ∧ CChg wr w' := by
  obtain ⟨Fs, h⟩ := h
  refine (expire_any (Fs i) x.cb x.n x.k0 x.k1 x.c P wr t r (h.ca i x hi) hr (by omega)).mono ?_
  rintro e w' ⟨rfl, haf⟩
  exact ⟨rfl, h.step hi (Nat.le_refl _) haf⟩
theorem row_c (l : List Qn) (hl : Hid (l = x.c.M.map (·.q))) :
    Calls Try.prog 21 #[.pointer (some ⟨x.cb, 0, none⟩)] wr fun e w' => ∃ a c, e = .returned (.slice a l.length c) ∧ R.OwnR 24 3 qL wr.heap.size w' (.slice a l.length c) l ∧ Chg [] wr w' := by
  obtain ⟨F, hF⟩ := h.at' hi
  refine (row_any F x.cb x.n x.k0 x.k1 x.c P wr hF).mono ?_
  rintro e w' ⟨v, rfl, ho, hc⟩
  rw [← hl.out] at ho
  obtain ⟨a, c, rfl⟩ := ho.len
  exact ⟨a, c, rfl, ho, hc⟩
theorem len_c (r : Nat) (hr : Hid (r = x.c.M.length)) :
    Calls Try.prog 14 #[.pointer (some ⟨x.cb, 0, none⟩)] wr fun e w' => e = .returned (.int .i64 (r : Nat)) ∧ Chg [] wr w' := by
  obtain ⟨F, hF⟩ := h.at' hi
  exact len_any F x.cb x.n x.k0 x.k1 x.c P wr r hF hr
theorem copy_c (hn : 1 ≤ x.n) (hP : P ≤ 900000) :
    Calls Try.prog 24 #[.pointer (some ⟨x.cb, 0, none⟩)] wr fun e w' => ∃ cb', e = .returned (.pointer (some ⟨cb', 0, none⟩)) ∧ Cabs w w' P (T ++ [⟨cb', x.n, x.k0, x.k1, x.c⟩]) ∧ Chg [] wr w' := by
  obtain ⟨F, hF⟩ := h.at' hi
  refine (copy_any F x.cb x.n x.k0 x.k1 x.c P wr hF hn hP).mono ?_
  rintro e w' ⟨cb', F', rfl, hF', hge, hc⟩
  exact ⟨cb', rfl, h.push hc hF' hge, hc⟩
end
section
variable {w wr : World} {P : Nat} {T : List Chn} (h : Cabs w wr P T)
include h
theorem new_c (n k0 k1 : Nat) (hn : n ≤ 256) (h0 : k0 < 18446744073709551616) (h1 : k1 < 18446744073709551616) :
    Calls Try.prog 26 #[.int .i64 (n : Nat), .int .u64 (k0 : Nat), .int .u64 (k1 : Nat)] wr fun e w' => ∃ cb, e = .returned (.tuple #[.pointer (some ⟨cb, 0, none⟩), .int .i64 0]) ∧ Cabs w w' P (T ++ [⟨cb, n, k0, k1, ⟨0, []⟩⟩]) ∧ Chg [] wr w' := by
  refine (new_any n k0 k1 wr hn h0 h1).mono ?_
  rintro e w' ⟨cb, F, rfl, hF, hlo, hc⟩
  exact ⟨cb, rfl, h.push hc (hF.mono (Nat.zero_le _)) hlo, hc⟩
theorem made_c (x : Int) (k n : Nat) (hk : k < 18446744073709551616) (hn : Hid (n = roomN x)) :
    Calls Try.prog 10 #[.int .i64 x, .int .u64 (k : Nat)] wr fun e w' => ∃ cb, e = .returned (.pointer (some ⟨cb, 0, none⟩)) ∧ Cabs w w' P (T ++ [⟨cb, n, k, 5, ⟨0, []⟩⟩]) ∧ Chg [] wr w' := by
  refine (Go.Proofs.Ytgdnfempcjlipaa.made_any x k n wr hk hn).mono ?_
  rintro e w' ⟨cb, F, rfl, hF, hlo, hc⟩
  exact ⟨cb, rfl, h.push hc (hF.mono (Nat.zero_le _)) hlo, hc⟩
end

end Go.Proofs.Ytgdnfempcjlipaa
