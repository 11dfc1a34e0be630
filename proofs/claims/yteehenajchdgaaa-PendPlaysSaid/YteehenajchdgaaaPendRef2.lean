/- The walks of the document's table of IDs: Copy, Draw. -/
import Derived.Test.YteehenajchdgaaaPendRef
namespace Go.Proofs.Yteehenajchdgaaa
open Go.RowKit Go.Maps

theorem ownRO {base : Nat} {w : World} {v : Value} {l : List Ou} {n : Nat} (h : w.ownsRow base 81 3 v (0 + l.length) ([] ++ l.flatMap ouV)) (hn : n = l.length) : ∃ a c, v = .slice a n c ∧ OwnO base w (.slice a n c) l := by
  subst hn
  rw [Nat.zero_add, List.nil_append] at h
  obtain ⟨a, c, rfl⟩ := R.OwnR.len (t := 81) (sz := 3) (f := ouV) h
  exact ⟨a, c, rfl, h⟩
section
variable (q n : Nat) (L : List Ou) (w : World)
set_option maxHeartbeats 2000000 in
theorem rcopy_any (h : RTab w q n L) :
    Calls Try.prog 26 #[.pointer (some ⟨q, 0, none⟩)] w fun e w' => ∃ q', e = .returned (.pointer (some ⟨q', 0, none⟩)) ∧ w.heap.size ≤ q' ∧ RTab w' q' n L ∧ Chg [] w w' := by
  have hq := h.lt
  obtain ⟨hl, v, h1, h2⟩ := h
  obtain ⟨av, cv, rfl⟩ := h2.len
  have k0 : w.cell? ⟨q, 0, none⟩ = some (.int .i64 n) := cell_of h1
  have k1 : w.cell? ⟨q, 0 + 1, none⟩ = some (.slice av L.length cv) := cell_of h1
  obtain ⟨i0, hi0, hz0, hz1, hz2⟩ := info_parts Try.elemOut
  have hnew : (w.alloc (.cells #[] 81)).ownsRow w.heap.size 81 3 (.slice (some ⟨w.heap.size, 0, none⟩) 0 0) 0 [] := R.OwnR.made (α := Ou) _ _ ouV w
  have hsrc := (h2.same ((Chg.refl [] w).alloc (.cells #[] 81))).src
  have hfl := R.flat_len ouV 3 ouV_len L
  have HNEW := Lib.hid hnew
  have HSRC := Lib.hid hsrc
  have HFL := Lib.hid hfl
  clear h1 h2 hnew hsrc hfl
  go_enter Try.func26, Try.ntmps26
  go_wp2
  go_region_law (refine step_append_src rfl (.tmp 7) (.tmp 11) 77 rfl w.heap.size 81 i0 (.agg #[.int .i64 0, .int .i64 0, .int .u16 0]) 3 24 Try.underlying77 hi0 hz0 hz1 hz2 rfl (by decide) (.slice (some ⟨w.heap.size, 0, none⟩) 0 0) 0 [] rfl HNEW.out av L.length cv (L.flatMap ouV) rfl HSRC.out.1 HSRC.out.2.1 HFL.out HSRC.out.2.2 (ouV_one L) (by unfold maxLen; omega) (by omega) (by simp) ?_; intro v1 w1 hown1 hg1 _; obtain ⟨a1, c1, rfl, hO⟩ := ownRO hown1 rfl; have hc1 : Chg [] w w1 := (((Chg.refl [] w).alloc (.cells #[] 81)).drew).grown hg1 (fun k hk => by injection hk with hk; subst hk; exact .inr (Nat.le_refl _)); have k0' := hc1.cell k0 (by simp); have k1' := hc1.cell k1 (by simp))
  all_goals
    go_wp2
    go_ret
    exact ⟨_, rfl, hc1.size, ⟨hl, _, heap_new _ _, (hO.same ((Chg.refl [] w1).alloc _)).low (Nat.zero_le _)⟩, hc1.alloc _⟩

theorem rdraw_bad (u s : Int) (p : Value) (h : RTab w q n L) (hn : n ≤ 9) (hu : u < 0 ∨ (n : Int) ≤ u ∨ s < 0 ∨ 32 ≤ s) :
    Calls Try.prog 23 #[.pointer (some ⟨q, 0, none⟩), .int .i64 u, .int .i64 s, p] w fun e w' => e = .returned (.tuple #[.int .u16 0, .int .i64 1]) ∧ w = w' := by
  obtain ⟨_, v, h1, _⟩ := h
  have c0 : w.cell? ⟨q, 0, none⟩ = some (.int .i64 n) := cell_of h1
  clear h1
  by_cases h0 : u < 0
  · have t0 : decide (u < 0) = true := by simpa using h0
    clear hu
    go_enter Try.func23, Try.ntmps23
    go_wp2
    go_ret2
    exact ⟨rfl, rfl⟩
  have t0 : decide (u < 0) = false := by simpa using h0
  by_cases h1 : (n : Int) ≤ u
  · have t1 : decide ((n : Int) ≤ u) = true := by simpa using h1
    clear hu
    go_enter Try.func23, Try.ntmps23
    go_wp2
    go_ret2
    exact ⟨rfl, rfl⟩
  have t1 : decide ((n : Int) ≤ u) = false := by simpa using h1
  by_cases h2 : s < 0
  · have t2 : decide (s < 0) = true := by simpa using h2
    clear hu
    go_enter Try.func23, Try.ntmps23
    go_wp2
    go_ret2
    exact ⟨rfl, rfl⟩
  have t2 : decide (s < 0) = false := by simpa using h2
  have h3 : 32 ≤ s := by omega
  have t3 : decide (32 ≤ s) = true := by simpa using h3
  clear hu
  go_enter Try.func23, Try.ntmps23
  go_wp2
  go_ret2
  exact ⟨rfl, rfl⟩

def RDrawR (p : Nat → Bool) (r : Nat) (v i : Value) : Prop := ∃ j y : Nat, j ≤ 65536 ∧ y < 65536 ∧ v = .int .u16 (y : Nat) ∧ i = .int .i64 (j : Nat) ∧ Hid (nf p (65536 - j) y = r)
set_option maxHeartbeats 2000000 in
theorem rdraw_ok (i s b seed : Nat) (l : List Nat) (k r : Nat) (h : RTab w q n L) (hok : OkO n L) (ht : D.RTape w b seed l k) (hk : k < 4611686018427387904) (hi : i < n) (hn : n ≤ 9) (hs : s < 32) (hL : L.length ≤ 900)
    (hr : Hid (r = nextO L (i : Int) (D.drawN seed l k % 65536))) :
    Calls Try.prog 23 #[.pointer (some ⟨q, 0, none⟩), .int .i64 (i : Nat), .int .i64 (s : Nat), .pointer (some ⟨b, 0, none⟩)] w fun e w' =>
      e = .returned (.tuple #[.int .u16 (r : Nat), .int .i64 0]) ∧ RTab w' q n (L ++ [⟨i, s, r⟩]) ∧ D.RTape w' b seed l (k + 1) ∧ Chg [b, q] w w' := by
  have h' := h
  obtain ⟨hl0, v, h1, h2⟩ := h
  have c0 : w.cell? ⟨q, 0, none⟩ = some (.int .i64 n) := cell_of h1
  have hbq : q ∉ [b] := by
    intro e
    simp at e
    subst e
    obtain ⟨v', h1', _⟩ := ht
    rw [h1] at h1'
    cases h1'
  have hll := lenO_le L (i : Int)
  obtain ⟨m, hm⟩ : ∃ m, m = lenO L (i : Int) := ⟨_, rfl⟩
  have hd := ht.small
  have hx : D.drawN seed l k % 65536 < 65536 := Nat.mod_lt _ (by omega)
  have hrl : r < 65536 := by rw [hr.out]; exact nextO_lt L _ hx
  have hrf : hasO L (i : Int) r = false := by rw [hr.out]; exact nextO_free hok (by omega) hx
  have hodd := rtape_odd ht
  have hnx := D.rnext_any b seed l k w ht hk
  obtain ⟨d, hde⟩ : ∃ d, d = D.drawN seed l k := ⟨_, rfl⟩
  rw [← hde] at hnx hr hd hx
  have hr' : nf (hasO L (i : Int)) (65536 - 0) (d % 65536) = r := hr.out.symm
  have hml : m ≤ 900 := by omega
  have HM := Lib.hid hm
  have t0 : decide ((i : Int) < 0) = false := by simp
  have t1 : decide (n ≤ i) = false := by simp; omega
  have t2 : decide ((s : Int) < 0) = false := by simp
  have t3 : decide ((32 : Int) ≤ (s : Int)) = false := by simp; omega
  have t4 : decide (32 ≤ s) = false := by simp; omega
  have t5 : decide ((65536 : Int) ≤ (m : Int)) = false := by simp; omega
  have t6 : decide (65536 ≤ m) = false := by simp; omega
  have HR := Lib.hid hr'
  obtain ⟨i0, hi0, hz0, hz1, hz2⟩ := info_parts Try.elemOut
  clear h1 h2 hm hr hr' ht hde
  go_enter Try.func23, Try.ntmps23
  go_wp2_with fail
  refine (rlen_any q n L w (i : Int) m h' HM).mono ?_
  rintro e w0 ⟨rfl, rfl⟩
  go_wp2_with fail
  refine hnx.mono ?_
  rintro e w1 ⟨rfl, ht1, hc1⟩
  have hT1 := h'.chg hc1 hodd hbq
  have hc1' : Chg [b, q] w w1 := hc1.mono (by simp)
  clear hnx h' hc1 hodd hbq
  go_wp2_with fail
  go_loop [10, 11] (RDrawR (hasO L (i : Int)) r) (fun _ v => 65537 - (intOf v).toNat)
  case atStart => exact ⟨0, d % 65536, by omega, hx, by go_num, rfl, HR⟩
  case round =>
    clear HR
    obtain ⟨j, y, hj, hy, rfl, rfl, hf⟩ := hrel
    -- the end: what is found is laid behind all others
    by_cases hstop : j < 65536 ∧ hasO L (i : Int) y = true
    · obtain ⟨hlt, hb⟩ := hstop
      have hnew : nf (hasO L (i : Int)) (65536 - (j + 1)) ((y + 1) % 65536) = r := by
        have e := hf.out
        rw [show 65536 - j = (65536 - (j + 1)) + 1 by omega, nf_miss _ _ _ hb] at e
        exact e
      have HNEW := Lib.hid hnew
      have E1 : Hid (true = hasO L (i : Int) y) := Lib.hid hb.symm
      have hltI : (j : Int) < 65536 := by omega
      clear hb hnew hf hrf
      have HLT := Lib.hid hlt
      clear hlt hj
      go_wp2_with fail
      refine (rfind_any q n L w1 (i : Int) y _ true hT1 hok (Lib.hid rfl) E1).mono ?_
      rintro e w2 ⟨rfl, rfl⟩
      go_wp2
      go_round
      case rel => exact ⟨j + 1, (y + 1) % 65536, by have := HLT.out; omega, Nat.mod_lt _ (by omega), by go_num, by go_num, HNEW⟩
      case measure => have := HLT.out; simp [intOf] <;> omega
    · have hyr : y = r := by
        have e := hf.out
        by_cases hlt : j < 65536
        · have hb : hasO L (i : Int) y = false := by
            cases hh : hasO L (i : Int) y with
            | false => rfl
            | true => exact absurd ⟨hlt, hh⟩ hstop
          rw [nf_hit _ _ _ hb] at e
          exact e
        · rw [show 65536 - j = 0 by omega] at e
          exact e
      subst hyr
      obtain ⟨hl1, v1, h1, h2⟩ := id hT1
      obtain ⟨av, cv, rfl⟩ := h2.len
      have k1 : w1.cell? ⟨q, 0 + 1, none⟩ = some (.slice av L.length cv) := cell_of h1
      have hnew : (w1.alloc (.cells #[] 81)).ownsRow w1.heap.size 81 3 (.slice (some ⟨w1.heap.size, 0, none⟩) 0 0) 0 [] := R.OwnR.made (α := Ou) _ _ ouV w1
      have hsrc := (h2.same ((Chg.refl [] w1).alloc (.cells #[] 81))).src
      have hfl := R.flat_len ouV 3 ouV_len L
      have HNEW := Lib.hid hnew
      have HSRC := Lib.hid hsrc
      have HFL := Lib.hid hfl
      have H1 := Lib.hid h1
      have hq1 : q < w1.heap.size := lt_of_block h1
      have E1 : Hid (false = hasO L (i : Int) y) := Lib.hid hrf.symm
      clear h1 h2 hnew hsrc hfl hf hrf
      by_cases hlt : j < 65536
      case' pos =>
        have hltI : (j : Int) < 65536 := by omega
        clear hlt hj hstop
        go_wp2_with fail
        refine (rfind_any q n L w1 (i : Int) y _ false hT1 hok (Lib.hid rfl) E1).mono ?_
        rintro e w2 ⟨rfl, rfl⟩
      case' neg =>
        have hltI : ¬ (j : Int) < 65536 := by omega
        clear hlt hj hstop
      all_goals
        go_wp2_with (at_builtin; go_must (first
          | (refine wpList_append_src rfl (.tmp 56) (.tmp 60) 77 rfl w1.heap.size 81 i0 (.agg #[.int .i64 0, .int .i64 0, .int .u16 0]) 3 24 Try.underlying77 hi0 hz0 hz1 hz2 rfl (by decide) (.slice (some ⟨w1.heap.size, 0, none⟩) 0 0) 0 [] rfl HNEW.out av L.length cv (L.flatMap ouV) rfl HSRC.out.1 HSRC.out.2.1 HFL.out HSRC.out.2.2 (ouV_one L) (by unfold maxLen; omega) (by omega) (by simp) ?_; intro v2 w2 hown2 hg2 _; obtain ⟨a2, c2, rfl, hO⟩ := ownRO hown2 rfl; have HO := Lib.hid hO; have hc2 : Chg [] w1 w2 := ((Chg.refl [] w1).alloc (.cells #[] 81)).grown hg2 (fun k hk => (by simp [Value.ownBlock] at hk; right; omega)); clear hO hown2)
          | (refine wpList_append_own _ rfl (.tmp 61) (.tmp 66) 77 rfl w1.heap.size 81 i0 (.agg #[.int .i64 0, .int .i64 0, .int .u16 0]) 3 24 Try.underlying77 hi0 hz0 hz1 hz2 rfl (by decide) _ L.length (L.flatMap ouV) rfl (World.ownsRow.alloc HO.out _) ⟨w2.heap.size, 0, none⟩ 1 1 (ouV ⟨i, s, y⟩) rfl rfl (cell_three_new _ _ _ _ _) (by simp [ouV, Value.oneCell']) (by unfold maxLen; omega) (by omega) (by have := hc2.size; simp; omega) ?_; intro v3 w3 hown3 hg3 _; obtain ⟨a3, c3, rfl⟩ := owns_len hown3; have hc3 : Chg [] w1 w3 := (hc2.alloc (.cells #[.int .i64 (i : Nat), .int .i64 (s : Nat), .int .u16 (y : Nat)] 81)).grown hg3 (fun k hk => .inr (HO.out.blk k hk).1); have hq3 := hc3.keep H1.out (by simp); have f3 : w3.frozen? ⟨q, 0 + 1, none⟩ = false := free_of hq3; have k3 := cell_of (i := 0 + 1) hq3; have HQ3 := Lib.hid hq3; clear hq3)))
        go_ret2
        have hO3 : OwnO w1.heap.size w3 (.slice a3 (L.length + 1) c3) (L ++ [⟨i, s, y⟩]) := R.OwnR.snoc hown3
        have hne : ∀ g, (Value.slice a3 (L.length + 1) c3).ownBlock = some g → g ∉ [q] := fun g hg => by
          have := (hO3.blk g hg).1
          simp; omega
        have hset : Chg [q] w3 (w3.setCell ⟨q, 1, none⟩ (.slice a3 (L.length + 1) c3)) := Chg.set1 _ _ _ _
        have hoddq : Odd [q] w3 := odd_one HQ3.out (.inr (.inr rfl))
        have hbq : b ∉ [q] := by
          intro e
          simp at e
          subst e
          obtain ⟨v', h1', _⟩ := rtape_chg ht1 hc3 (odd_nil _) (by simp)
          rw [HQ3.out] at h1'
          cases h1'
        refine ⟨rfl, ⟨by simp; omega, _, by rw [heap_set HQ3.out]; rfl, (hO3.chg hset hne).low (Nat.zero_le _)⟩, rtape_chg (rtape_chg ht1 hc3 (odd_nil _) (by simp)) hset hoddq hbq, ?_⟩
        exact (hc1'.trans (hc3.mono (by simp))).trans (hset.mono (by simp))
theorem rdraw_any (u s : Int) (b seed : Nat) (l : List Nat) (k r ee k' : Nat) (L' : List Ou) (h : RTab w q n L) (hok : OkO n L) (ht : D.RTape w b seed l k) (hk : k < 4611686018427387904) (hn : n ≤ 9) (hL : L.length ≤ 900)
    (he : Hid (ee = errP n L u s)) (hr : Hid (r = idP n L u s (D.drawN seed l k))) (hLL : Hid (L' = drawL n L u s (D.drawN seed l k))) (hk' : Hid (k' = usedP n L u s k)) :
    Calls Try.prog 23 #[.pointer (some ⟨q, 0, none⟩), .int .i64 u, .int .i64 s, .pointer (some ⟨b, 0, none⟩)] w fun e w' =>
      e = .returned (.tuple #[.int .u16 (r : Nat), .int .i64 (ee : Nat)]) ∧ RTab w' q n L' ∧ D.RTape w' b seed l k' ∧ Chg [b, q] w w' := by
  rw [he.out, hr.out, hLL.out, hk'.out]
  by_cases hb : badP n u s = true
  · have e1 : errP n L u s = 1 := by unfold errP; rw [if_pos hb]
    unfold idP drawL usedP
    rw [e1, if_neg (by omega), if_neg (by omega), if_neg (by omega)]
    refine (rdraw_bad q n L w u s _ h hn (by unfold badP at hb; simpa using hb)).mono ?_
    rintro e w' ⟨rfl, rfl⟩
    exact ⟨rfl, h, ht, Chg.refl _ _⟩
  · have hb' : ¬(u < 0 ∨ (n : Int) ≤ u ∨ s < 0 ∨ 32 ≤ s) := by unfold badP at hb; simpa using hb
    obtain ⟨i, rfl⟩ : ∃ i : Nat, u = i := ⟨u.toNat, by omega⟩
    obtain ⟨t, rfl⟩ : ∃ t : Nat, s = t := ⟨s.toNat, by omega⟩
    have hl : ¬ 65536 ≤ lenO L (i : Int) := by have := lenO_le L (i : Int); omega
    have e1 : errP n L (i : Int) (t : Int) = 0 := by unfold errP; rw [if_neg hb, if_neg hl]
    unfold idP drawL usedP
    rw [e1, if_pos rfl, if_pos rfl, if_pos rfl]
    exact rdraw_ok q n L w i t b seed l k _ h hok ht hk (by omega) hn (by omega) hL (Lib.hid rfl)
end

end Go.Proofs.Yteehenajchdgaaa
