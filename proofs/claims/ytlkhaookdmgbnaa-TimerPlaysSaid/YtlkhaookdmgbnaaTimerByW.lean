/- The walk of TimerBy. -/
import Derived.Test.YtlkhaookdmgbnaaSets14
namespace Go.Proofs.Ytlkhaookdmgbnaa
open Go.RowKit

theorem argz {w : World} {a : Option Addr} {len cap : Nat} {zs : List Int} (h : IsRow .i64 w a len cap zs) : len ≤ maxLen ∧ ∀ i, i < len → ∃ b o, a = some ⟨b, o, none⟩ ∧ b < w.heap.size ∧ w.cell? ⟨b, o + i, none⟩ = some (.int .i64 (zs.getD i 0)) := by
  rcases h with ⟨rfl, rfl, rfl, rfl⟩ | ⟨x, rfl, hl, hm, hz, hc, hw⟩
  · exact ⟨by simp, fun i h => absurd h (by simp)⟩
  · refine ⟨by omega, fun i hi => ?_⟩
    have h1 := hc i (by omega)
    have h0 := hc 0 (by omega)
    have hs := no_spot h0
    have hx : x = ⟨x.block, x.off, none⟩ := by
      have : x.spot = none := by simpa [Addr.add] using hs
      rw [← this]
    have e := add_flat x.block x.off i
    rw [← hx] at e
    rw [e] at h1
    have hb : x.block < w.heap.size := World.block_lt_of_cell? w ⟨x.block, x.off + i, none⟩ h1
    exact ⟨x.block, x.off, by rw [← hx], hb, h1⟩
theorem OwnZ.src {base : Nat} {w : World} {v : Value} {l : List Int} (h : OwnZ base w v l) : ∃ ad c, v = .slice ad l.length c ∧ (ad = none → c = 0) ∧ (l.map (fun x => Value.int .i64 x) ≠ [] → ad ≠ none) ∧ ∀ p, ad = some p → ∀ j u, (l.map (fun x => Value.int .i64 x))[j]? = some u → w.cell? (p.add j) = some u := by
  obtain ⟨h0, hh⟩ := h
  rcases hh with ⟨rfl, e⟩ | ⟨g, cap, cur, rfl, hb, hg, h1, h2, h3, h4⟩
  · exact ⟨none, 0, by rw [e], fun _ => rfl, fun hn => absurd (List.eq_nil_of_length_eq_zero (by simpa using e)) hn, fun p hp => by cases hp⟩
  · refine ⟨some ⟨g, 0, none⟩, cap, rfl, fun hn => (by cases hn), fun _ hn => (by cases hn), ?_⟩
    intro p hp
    cases hp
    exact World.ownsRow.cells (base := base) (e := 3) (size := 1) (v := .slice (some ⟨g, 0, none⟩) l.length cap) (n := l.length) ⟨h0, .inr ⟨g, cap, cur, rfl, hb, hg, h1, h2, h3, h4⟩⟩ rfl
theorem TimersAt.grown {w w' : World} {tb p : Nat} {F : List Nat} {L : List It} {row : Option Nat} (h : TimersAt w tb F L p) (hg : w.grownBy w' row) (hrow : ∀ k, row = some k → k ∉ tb :: F) : TimersAt w' tb F L p := by
  have hc : Chg row.toList w w' := (Chg.refl _ w).grown hg fun k hk => .inl (by simp [hk])
  refine h.chg hc ?_ ?_
  · intro hx
    cases row with
    | none => simp at hx
    | some k => simp at hx; exact hrow k rfl (by simp [hx])
  · intro y hy hx
    cases row with
    | none => simp at hx
    | some k => simp at hx; exact hrow k rfl (by rw [← hx]; exact List.mem_cons_of_mem _ hy)

/-- What was told so far, and what is left. -/
structure ByP (L M : List It) (l : List Int) (now : Int) (k : Nat) : Prop where
  zero : k = 0 → M = L ∧ l = []
  pos : 0 < k → l = dueL L now ∧ M = restL L now
theorem ByP.next {L M : List It} {l : List Int} {now : Int} {k : Nat} (h : ByP L M l now k) (hr : L.Pairwise fun x y => x.put < y.put) {n2 : Int} (hn : now ≤ n2) : ByP L (restL M n2) (l ++ dueL M n2) n2 (k + 1) := by
  refine ⟨fun e => by omega, fun _ => ?_⟩
  by_cases hk : k = 0
  · obtain ⟨rfl, rfl⟩ := h.zero hk
    exact ⟨by simp, rfl⟩
  · obtain ⟨rfl, rfl⟩ := h.pos (by omega)
    exact ⟨due_split hr hn, rest_split L hn⟩
/-- Two timers that lie apart, ahead of a bound. -/
structure TT (w wr : World) (B t u : Nat) (F1 F2 : List Nat) (L M : List It) (p : Nat) : Prop where
  one : TimersAt wr t F1 M p
  two : TimersAt wr u F2 L p
  low1 : ∀ y ∈ t :: F1, y < B
  low2 : ∀ y ∈ u :: F2, y < B
  new1 : ∀ y ∈ t :: F1, w.heap.size ≤ y
  new2 : ∀ y ∈ u :: F2, w.heap.size ≤ y
  apart : ∀ y ∈ t :: F1, y ∉ u :: F2
  chg : Chg [] w wr
  size : B ≤ wr.heap.size
theorem TT.due1 {w wr w' : World} {B t u p : Nat} {F1 F2 : List Nat} {L M M' : List It} (h : TT w wr B t u F1 F2 L M p) (h1 : TimersAt w' t F1 M' p) (hc : Chg (t :: F1) wr w') : TT w w' B t u F1 F2 L M' p :=
  ⟨h1, h.two.chg hc (fun hx => h.apart _ hx (by simp)) (fun y hy hx => h.apart _ hx (List.mem_cons_of_mem _ hy)), h.low1, h.low2, h.new1, h.new2, h.apart, h.chg.trans_new hc fun y hy => .inr (h.new1 y hy), Nat.le_trans h.size hc.size⟩
theorem TT.due2 {w wr w' : World} {B t u p : Nat} {F1 F2 : List Nat} {L M L' : List It} (h : TT w wr B t u F1 F2 L M p) (h1 : TimersAt w' u F2 L' p) (hc : Chg (u :: F2) wr w') : TT w w' B t u F1 F2 L' M p :=
  ⟨h.one.chg hc (fun hx => h.apart t (by simp) hx) (fun y hy hx => h.apart y (List.mem_cons_of_mem _ hy) hx), h1, h.low1, h.low2, h.new1, h.new2, h.apart, h.chg.trans_new hc fun y hy => .inr (h.new2 y hy), Nat.le_trans h.size hc.size⟩
theorem TT.same {w wr w' : World} {B t u p : Nat} {F1 F2 : List Nat} {L M : List It} (h : TT w wr B t u F1 F2 L M p) (hc : Chg [] wr w') : TT w w' B t u F1 F2 L M p :=
  ⟨h.one.same hc, h.two.same hc, h.low1, h.low2, h.new1, h.new2, h.apart, h.chg.trans hc, Nat.le_trans h.size hc.size⟩
theorem TT.grown {w wr w' : World} {B t u p : Nat} {F1 F2 : List Nat} {L M : List It} {row : Option Nat} (h : TT w wr B t u F1 F2 L M p) (hg : wr.grownBy w' row) (hrow : ∀ k, row = some k → B ≤ k) (hB : w.heap.size ≤ B) : TT w w' B t u F1 F2 L M p :=
  ⟨h.one.grown hg fun k hk hx => by have := hrow k hk; have := h.low1 k hx; omega, h.two.grown hg fun k hk hx => by have := hrow k hk; have := h.low2 k hx; omega, h.low1, h.low2, h.new1, h.new2, h.apart, h.chg.grown hg fun k hk => .inr (by have := hrow k hk; omega), Nat.le_trans h.size hg.size⟩
theorem TT.made {w w1 w2 w3 : World} {t u p : Nat} {L : List It} (hc : Chg [] w w1) (h1 : TB w1 w2 t L p) (h2 : TB w2 w3 u L p) : ∃ F1 F2, TT w w3 w3.heap.size t u F1 F2 L L p := by
  obtain ⟨F1, a1, a2, a3, a4⟩ := h1
  obtain ⟨F2, b1, b2, b3, b4⟩ := h2
  have s1 := hc.size
  have s2 := a4.size
  have s3 := b4.size
  refine ⟨F1, F2, a1.same b4, b1, ?_, ?_, ?_, ?_, ?_, (hc.trans a4).trans b4, Nat.le_refl _⟩
  · intro y hy
    rcases List.mem_cons.1 hy with e | e
    · have := a1.lt; omega
    · have := a1.low y e; omega
  · intro y hy
    rcases List.mem_cons.1 hy with e | e
    · have := b1.lt; omega
    · have := b1.low y e; omega
  · intro y hy
    rcases List.mem_cons.1 hy with e | e
    · omega
    · have := a2 y e; omega
  · intro y hy
    rcases List.mem_cons.1 hy with e | e
    · omega
    · have := b2 y e; omega
  · intro y hy hx
    have h1 : y < w2.heap.size := by
      rcases List.mem_cons.1 hy with e | e
      · have := a1.lt; omega
      · exact a1.low y e
    rcases List.mem_cons.1 hx with e | e
    · omega
    · have := b2 y e; omega

theorem ByP.len {L M : List It} {l : List Int} {now : Int} {k : Nat} (h : ByP L M l now k) : l.length ≤ L.length := by
  by_cases hk : k = 0
  · obtain ⟨rfl, rfl⟩ := h.zero hk
    simp
  · obtain ⟨rfl, rfl⟩ := h.pos (by omega)
    exact dueL_len_le L now
structure Src (w : World) (ad : Option Addr) (c : Nat) (d : List Int) : Prop where
  empty : ad = none → c = 0
  full : d.map (fun x => Value.int .i64 x) ≠ [] → ad ≠ none
  cells : ∀ p, ad = some p → ∀ j u, (d.map (fun x => Value.int .i64 x))[j]? = some u → w.cell? (p.add j) = some u
theorem due_by (w wr : World) (B t u : Nat) (F1 F2 : List Nat) (L M : List It) (p : Nat) (v7 : Value) (l : List Int) (now n2 : Int) (k : Nat) (hT : TT w wr B t u F1 F2 L M p) (hO : OwnZ B wr v7 l) (hP : ByP L M l now k) (hn : now ≤ n2) (hp : p ≤ 1000000) :
    Calls Try.prog 12 #[.pointer (some ⟨t, 0, none⟩), .int .i64 n2] wr fun e w' => ∃ ad c d M', e = .returned (.slice ad d.length c) ∧ Src w' ad c d ∧ OwnZ B w' v7 l ∧ TT w w' B t u F1 F2 L M' p ∧ ByP L M' (l ++ d) n2 (k + 1) := by
  refine (due_any t F1 M p n2 wr hT.one hp).mono ?_
  rintro e w4 ⟨v, rfl, k1, k2, k3⟩
  obtain ⟨ad, c4, rfl, s1, s2, s3⟩ := k1.src
  exact ⟨ad, c4, dueL M n2, restL M n2, rfl, ⟨s1, s2, s3⟩, hO.chg k3 hT.low1, hT.due1 k2 k3, hP.next hT.two.ok.rise hn⟩
theorem one_ints (d : List Int) : ∀ u ∈ d.map (fun x => Value.int .i64 x), u.oneCell' = true := by
  intro u hu
  obtain ⟨x, _, rfl⟩ := List.mem_map.1 hu
  rfl
theorem OwnZ.app {base : Nat} {w : World} {v : Value} {l d : List Int} (h : w.ownsRow base 3 1 v (l.length + d.length) (l.map (fun x => Value.int .i64 x) ++ d.map (fun x => Value.int .i64 x))) : OwnZ base w v (l ++ d) := by
  unfold OwnZ
  rw [List.map_append, List.length_append]
  exact h

def ByR (w : World) (B t u : Nat) (F1 F2 : List Nat) (L : List It) (p len : Nat) (v7 v8 v9 : Value) (wr : World) : Prop :=
  ∃ k l M now, k ≤ len ∧ v9 = .int .i64 (k : Nat) ∧ v8 = .int .i64 now ∧ OwnZ B wr v7 l ∧ TT w wr B t u F1 F2 L M p ∧ ByP L M l now k

set_option maxRecDepth 100000 in
set_option maxHeartbeats 8000000 in
theorem timerBy_walk (a0 : Option Addr) (cap0 : Nat) (z0 : List (Int × Int)) (a1 : Option Addr) (len1 cap1 : Nat) (z1 : List Int) (w : World) (w0 : IsSets w a0 z0) (w1 : IsRow .i64 w a1 len1 cap1 z1) :
    Calls Try.prog 4 #[.slice a0 z0.length cap0, .slice a1 len1 cap1] w fun e w' => e = .returned (.bool true) ∧ Below w.heap.size w w' := by
  obtain ⟨hm1, hrd⟩ := argz w1
  have HRD := Lib.hid hrd
  have HS := Lib.hid w0
  have hm0 := w0.1
  have hm0' : z0.length ≤ 9223372036854775807 := by simp only [maxLen] at hm0; omega
  have hm1' : len1 ≤ 9223372036854775807 := by simp only [maxLen] at hm1; omega
  clear w0 w1 hrd hm0 hm1
  obtain ⟨i0, hi0, hz0, hz1, hz2⟩ := info_parts Try.elemInt
  by_cases hl : z0.length ≤ 150
  · by_cases hr : len1 ≤ 150
    · have d1 : decide ((150 : Int) < (z0.length : Int)) = false := by simp; omega
      have d2 : decide ((150 : Int) < (len1 : Int)) = false := by simp; omega
      have d3 : decide (150 < z0.length) = false := by simp; omega
      have d4 : decide (150 < len1) = false := by simp; omega
      go_enter Try.func4, Try.ntmps4
      go_wp2_with fail
      refine (awake_any w).mono ?_
      rintro e w1 ⟨rfl, hc1⟩
      clear d1 d2 d3 d4
      go_wp2_with fail
      refine (put_sets a0 cap0 z0 _ (HS.out.same hc1) (by omega)).mono ?_
      rintro e w2 ⟨t, rfl, h2⟩
      have HS2 := Lib.hid ((HS.out.same hc1).same h2.chg)
      have H2 := Lib.hid h2
      clear h2
      go_wp2_with fail
      refine (put_sets a0 cap0 z0 _ HS2.out (by omega)).mono ?_
      rintro e w3 ⟨u, rfl, h3⟩
      obtain ⟨F1, F2, hTT⟩ := TT.made hc1 H2.out h3
      have HTT := Lib.hid hTT
      obtain ⟨L, hL⟩ : ∃ L, L = putsT z0 z0.length := ⟨_, rfl⟩
      rw [← hL] at HTT
      obtain ⟨p, hp⟩ : ∃ p, p = z0.length := ⟨_, rfl⟩
      rw [← hp] at HTT
      have hp1 : p ≤ 1000000 := by omega
      have hLp : L.length ≤ p := HTT.out.two.ok.len
      have HRISE := Lib.hid HTT.out.two.ok.rise
      obtain ⟨B, hB⟩ : ∃ B, B = w3.heap.size := ⟨_, rfl⟩
      rw [← hB] at HTT
      have hwB : w.heap.size ≤ B := by rw [hB]; exact HTT.out.chg.size
      clear hL hp hB h3 hTT H2 HS2 hc1
      go_wp2_with fail
      go_loopw [7, 8, 9] (ByR w B t u F1 F2 L p len1) (fun _ _ v9 _ => len1 - (intOf v9).toNat)
      case atStart => exact ⟨0, [], L, -9223372036854775808, by omega, rfl, rfl, OwnZ.nil _ _, HTT.out, ⟨fun _ => ⟨rfl, rfl⟩, fun h => by omega⟩⟩
      case round =>
        clear HTT
        obtain ⟨k, l, M, now, hk, rfl, rfl, hown, hT, hP⟩ := hrel
        have HT := Lib.hid hT
        have HP := Lib.hid hP
        have HO := Lib.hid hown
        obtain ⟨av, cv, hv⟩ := owns_len hown
        rw [hv] at HO ⊢
        clear hT hP hown hv
        by_cases hlt : k < len1
        · obtain ⟨b, o, rfl, hb, c0⟩ := HRD.out k hlt
          have c0' := HT.out.chg.cell c0 (by simp)
          obtain ⟨rd, hrd⟩ : ∃ rd, rd = z1.getD k 0 := ⟨_, rfl⟩
          rw [← hrd] at c0'
          have b1 : (k : Int) < (len1 : Int) := by omega
          clear c0 hrd
          go_wp2_with fail
          all_goals
            refine (due_by w _ B t u F1 F2 L M p (.slice av l.length cv) l now _ k HT.out HO.out HP.out (by omega) hp1).mono ?_
            rintro e w4 ⟨ad, c4, d, M2, rfl, s4, o4, t4, p4⟩
            have HT4 := Lib.hid t4
            have HP4 := Lib.hid p4
            have HS4 := Lib.hid s4
            have HO4 : Hid (w4.ownsRow B 3 1 (.slice av l.length cv) l.length (l.map fun x => Value.int .i64 x)) := Lib.hid o4
            have hll : l.length + d.length ≤ 1000000 := by
              have := p4.len
              rw [List.length_append] at this
              omega
            have hsz := t4.size
            clear s4 o4 t4 p4
            go_wp2_with (at_builtin; go_must (refine wpList_append_src rfl _ _ 26 rfl B 3 i0 (.int .i64 0) 1 8 Try.underlying26 hi0 hz0 hz1 hz2 rfl (by decide) (.slice av l.length cv) l.length _ rfl HO4.out ad d.length c4 (d.map fun x => Value.int .i64 x) rfl HS4.out.empty HS4.out.full (by simp) HS4.out.cells (one_ints d) (by unfold maxLen; omega) (by omega) hsz ?_); go_must (intro v1 w5 hown1 hg1 _))
            have HT5 := HT4.out.grown hg1 (fun k hk => by rcases owns_block HO4.out k hk with e | e; simp at e; exact e) hwB
            go_roundw
            case rel => exact ⟨k + 1, l ++ d, M2, _, by omega, by go_num, rfl, OwnZ.app hown1, HT5, HP4.out⟩
            case measure => simp [intOf]; omega
        · obtain rfl : k = len1 := by omega
          by_cases hk0 : k = 0
          · subst hk0
            obtain ⟨rfl, rfl⟩ := HP.out.zero rfl
            go_wp2_with fail
            refine (len_any t F1 M p _ HT.out.one).mono ?_
            rintro e w4 ⟨rfl, rfl⟩
            go_wp2_with fail
            refine (len_any u F2 M p _ HT.out.two).mono ?_
            rintro e w4 ⟨rfl, rfl⟩
            go_wp2
            go_ret
            exact ⟨by simp, HT.out.chg.below (Nat.le_refl _) (by simp)⟩
          · obtain ⟨rfl, rfl⟩ := HP.out.pos (by omega)
            have t1 : ((k : Int) == 0) = false := by simp; omega
            have t2 : (k == 0) = false := by simp; omega
            go_wp2_with fail
            refine (due_any u F2 L p now _ HT.out.two hp1).mono ?_
            rintro e w4 ⟨v4, rfl, o4, m4, c4⟩
            have HT4 := Lib.hid (HT.out.due2 m4 c4)
            have R1 : Hid (RowZ .i64 w4 (.slice av (dueL L now).length cv) (dueL L now)) := Lib.hid (OwnZ.row (OwnZ.chg HO.out c4 HT.out.low2))
            have R2 := Lib.hid o4.row
            clear o4 m4 c4
            have hln : (dueL L now).length ≤ 1000000 := Nat.le_trans (dueL_len_le L now) (by omega)
            go_wp2_with fail
            refine (intsz_c _ _ (dueL L now) (dueL L now) true (Lib.hid (by simp)) _ R1.out R2.out hln hln).mono ?_
            rintro e w5 ⟨rfl, hc5⟩
            have HT5 := Lib.hid (HT4.out.same hc5)
            clear hc5 HT4 R1 R2
            go_wp2_with fail
            refine (len_any t F1 _ p _ HT5.out.one).mono ?_
            rintro e w6 ⟨rfl, rfl⟩
            go_wp2_with fail
            refine (len_any u F2 _ p _ HT5.out.two).mono ?_
            rintro e w6 ⟨rfl, rfl⟩
            have q1 : (((restL L now).length : Int) == ((restL L now).length : Int)) = true := by simp
            go_wp2_with fail
            refine (due_any t F1 _ p 9223372036854775807 _ HT5.out.one hp1).mono ?_
            rintro e w6 ⟨v6, rfl, o6, m6, c6⟩
            have HT6 := Lib.hid (HT5.out.due1 m6 c6)
            have O6 := Lib.hid o6
            have hs6 := HT5.out.size
            clear o6 m6 c6
            go_wp2_with fail
            refine (due_any u F2 _ p 9223372036854775807 _ HT6.out.two hp1).mono ?_
            rintro e w7 ⟨v7, rfl, o7, m7, c7⟩
            have HT7 := Lib.hid (HT6.out.due2 m7 c7)
            have R6 := Lib.hid (OwnZ.row (OwnZ.chg O6.out c7 (fun y hy => Nat.lt_of_lt_of_le (HT6.out.low2 y hy) hs6)))
            have R7 := Lib.hid o7.row
            clear o7 m7 c7
            have hln2 : (dueL (restL L now) 9223372036854775807).length ≤ 1000000 := Nat.le_trans (dueL_len_le _ _) (Nat.le_trans (List.length_filter_le _ _) (by omega))
            go_wp2_with fail
            refine (intsz_c _ _ _ _ true (Lib.hid (by simp)) _ R6.out R7.out hln2 hln2).mono ?_
            rintro e w8 ⟨rfl, hc8⟩
            have HB : Hid (Below w.heap.size w w8) := Lib.hid ((HT7.out.same hc8).chg.below (Nat.le_refl _) (by simp))
            clear hc8 HT7 R6 R7 HT5 HT6
            go_wp2
            go_ret
            exact ⟨rfl, HB.out⟩
    · have d1 : decide ((150 : Int) < (z0.length : Int)) = false := by simp; omega
      have d2 : decide ((150 : Int) < (len1 : Int)) = true := by simp; omega
      have d3 : decide (150 < z0.length) = false := by simp; omega
      have d4 : decide (150 < len1) = true := by simp; omega
      go_enter Try.func4, Try.ntmps4
      go_wp2_with fail
      refine (awake_any w).mono ?_
      rintro e w1 ⟨rfl, hc1⟩
      go_wp2
      go_ret
      exact ⟨rfl, hc1.below (Nat.le_refl _) (by simp)⟩
  · have d1 : decide ((150 : Int) < (z0.length : Int)) = true := by simp; omega
    have d3 : decide (150 < z0.length) = true := by simp; omega
    go_enter Try.func4, Try.ntmps4
    go_wp2_with fail
    refine (awake_any w).mono ?_
    rintro e w1 ⟨rfl, hc1⟩
    go_wp2
    go_ret
    exact ⟨rfl, hc1.below (Nat.le_refl _) (by simp)⟩

end Go.Proofs.Ytlkhaookdmgbnaa
