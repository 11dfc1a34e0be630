/- The document's table of questions under way: Begin. -/
import Derived.Test.YtopkbchjlifflaaFlV
namespace Go.Proofs.Ytopkbchjlifflaa
open Go.RowKit Go.Maps

theorem heap_drewR {W : World} {k : Nat} {o : Obj} (h : W.heap[k]? = some o) : W.drew.heap[k]? = some o := h
theorem own_mt {w : World} {b base : Nat} {t : TypeId} {sz : Nat} (h : w.heap[b]? = some (.cells #[] t (0, 0))) (hb : base ≤ b) : w.ownsRow base t sz (.slice (some ⟨b, 0, none⟩) 0 0) 0 [] :=
  ⟨by simp, .inr ⟨b, 0, #[], rfl, hb, h, Nat.le_refl _, Nat.zero_le _, by simp, by simp⟩⟩
theorem own_nm {w : World} {base n : Nat} {a : Option Addr} {c : Nat} {l : List RF} (h : R.OwnR 98 5 rfV base w (.slice a n c) l) (hn : n = l.length) : w.ownsRow base 98 5 (.slice a n c) n (l.flatMap rfV) := by
  subst hn
  exact h
theorem news5 {W : World} {B : Nat} {a b c d e : Value} {t : TypeId} (h : W.heap[B]? = some (.cells #[a, b, c, d, e] t (0, 0))) : ∀ j u, [a, b, c, d, e][j]? = some u → W.cell? ((⟨B, 0, none⟩ : Addr).add j) = some u := fun j u hu => World.news_of_block h j u (by simpa using hu)
section
variable (G : List Nat) (x n m : Nat) (L : List Fl) (w : World)
set_option maxRecDepth 100000 in
set_option maxHeartbeats 16000000 in
theorem rbegin_any (q : Qs) (r e : Nat) (L' : List Fl) (h : RT G w x n m L) (hq : OkQ q) (hql : q.name.length ≤ 100000) (hr : Hid (beginF L n q = (L', r, e))) :
    Calls Try.prog 28 #[.pointer (some ⟨x, 0, none⟩), .agg #[.string (bytesV q.name), .int .u16 (q.ty : Nat), .int .u16 (q.cl : Nat)]] w fun y w' => y = .returned (.tuple #[.int .i64 (r : Nat), .int .i64 (e : Nat)]) ∧ RNext G w w' x n m L' := by
  obtain ⟨y, hy⟩ : ∃ y, y = mayB q.name := ⟨_, rfl⟩
  obtain ⟨sx, hsx⟩ : ∃ sx, sx = bytesV q.name := ⟨_, rfl⟩
  have hmay : ∀ w, Calls Try.prog 43 #[.string sx] w fun e w' => e = .returned (.bool y) ∧ Chg [] w w' := fun w => rmay_any sx y w (by rw [hsx]; exact hql) (Lib.hid (by rw [hy, hsx]; rfl))
  obtain ⟨nf, hnf⟩ : ∃ nf, nf = bytesV (foldQ q).name := ⟨_, rfl⟩
  have hfo : ∀ W, Calls Try.prog 45 #[.string sx] W fun e w' => e = .returned (.string nf) ∧ Chg [] W w' := fun W => rfold_any sx nf W (by rw [hsx]; exact hql) (Lib.hid (by rw [hnf, hsx]; rfl))
  obtain ⟨fi, hfi⟩ : ∃ fi, fi = findIs L q := ⟨_, rfl⟩
  obtain ⟨fa, hfa⟩ : ∃ fa, fa = findAt L q := ⟨_, rfl⟩
  have hfd : ∀ W, Chg [] w W → Calls Try.prog 44 #[.pointer (some ⟨x, 0, none⟩), .agg #[.string sx, .int .u16 (q.ty : Nat), .int .u16 (q.cl : Nat)]] W fun e w' => e = .returned (.tuple #[.int .i64 (fa : Nat), .bool fi]) ∧ Chg [] W w' := fun W hc => by
    rw [hsx]
    exact rfind_any G x n m L W q fa fi (h.same hc) hql (Lib.hid hfa) (Lib.hid hfi)
  rw [← hsx]
  have H := Lib.hid h
  have HR := hr
  have HNF := Lib.hid hnf
  have HFI := Lib.hid hfi
  have HY := Lib.hid hy
  obtain ⟨p0, hp0⟩ : ∃ p0, p0 = w.heap.size := ⟨_, rfl⟩
  have hlo0 : w.heap.size ≤ p0 := by omega
  clear hr hsx hnf hfi hfa hy h
  go_enter Try.func28, Try.ntmps28
  go_wp2_with fail
  rw [← hp0]
  refine calls_abs ?_
  intro W hW
  have b0 : W.heap[p0]? = some (.cells #[.string sx, .int .u16 (q.ty : Nat), .int .u16 (q.cl : Nat)] 25 (0, 0)) := by rw [hW]; exact heap_new' _ _ _ hp0
  have hcW : Chg [] w W := by rw [hW]; exact (Chg.refl _ _).alloc _
  clear hW hp0
  refine (hmay _).mono ?_
  rintro e1 w1 ⟨rfl, hc1⟩
  have hC1 := hcW.trans hc1
  have b1 := hc1.keep b0 (by simp)
  clear hc1 hcW b0 hmay
  cases y with
  | false =>
    have e0 : beginF L n q = (L, 0, 1) := by unfold beginF; rw [← HY.out]; rfl
    have e1 := HR.out
    rw [e0] at e1
    injection e1 with e1 e2
    injection e2 with e2 e3
    subst e1; subst e2; subst e3
    clear e0 hfo hfd b1
    go_wp2
    go_ret2
    exact ⟨rfl, RNext.refl H.out hC1⟩
  | true =>
    have e0 : beginF L n q = if (findF L (foldQ q)).isSome then (L, 0, 7) else match freeF L n n 0 with | some s => (L ++ [⟨s, foldQ q, []⟩], s, 0) | none => (L, 0, 9) := by unfold beginF; rw [← HY.out]; rfl
    have e1 : fi = (findF L (foldQ q)).isSome := by rw [HFI.out]; unfold findIs; rw [← HY.out]; rfl
    rw [← e1] at e0
    have k0 : w1.cell? ⟨p0, 0, none⟩ = some (.string sx) := cell_of b1
    have k1 : w1.cell? ⟨p0, 1, none⟩ = some (.int .u16 (q.ty : Nat)) := cell_of b1
    have k2 : w1.cell? ⟨p0, 2, none⟩ = some (.int .u16 (q.cl : Nat)) := cell_of b1
    have HE0 := Lib.hid e0
    have HE1 := Lib.hid e1
    have hcall := hfd w1 hC1
    clear e0 e1 hfd
    go_wp2_with fail
    refine hcall.mono ?_
    rintro e2 w2 ⟨rfl, hc2⟩
    have hC2 := hC1.trans hc2
    have b2 := hc2.keep b1 (by simp)
    clear hc2 b1 hC1 k0 k1 k2 hcall
    cases fi with
    | true =>
      have e1 := HR.out
      rw [HE0.out] at e1
      simp only [if_true] at e1
      injection e1 with e1 e2
      injection e2 with e2 e3
      subst e1; subst e2; subst e3
      clear hfo b2
      go_wp2
      go_ret2
      exact ⟨rfl, RNext.refl H.out hC2⟩
    | false =>
      have k0 : w2.cell? ⟨p0, 0, none⟩ = some (.string sx) := cell_of b2
      go_wp2_with fail
      refine (hfo _).mono ?_
      rintro e3 w3 ⟨rfl, hc3⟩
      have hC3 := hC2.trans hc3
      have b3 := hc3.keep b2 (by simp)
      have n0 : w3.cell? ⟨p0, 0, none⟩ = some (.string sx) := cell_of b3
      have f3 : w3.frozen? ⟨p0, 0, none⟩ = false := free_of b3
      have b4 : (w3.setCell ⟨p0, 0, none⟩ (.string nf)).heap[p0]? = some (.cells #[.string nf, .int .u16 (q.ty : Nat), .int .u16 (q.cl : Nat)] 25 (0, 0)) := by rw [heap_set b3]; rfl
      have hC4 : Chg [] w (w3.setCell ⟨p0, 0, none⟩ (.string nf)) := hC3.setCell (.inr hlo0) _
      have HB4 := Lib.hid b4
      have HC4 := Lib.hid hC4
      clear hc3 hC2 hC3 b2 b3 b4 hC4 k0 hfo
      go_wp2_with fail
      refine wp_abs ?_
      intro w4 hw4
      have b4 := HB4.out
      have hC4 := HC4.out
      rw [← hw4] at b4 hC4
      clear hw4 n0 f3 HB4 HC4
      obtain ⟨v, rs, hT0⟩ := H.out
      have hT := hT0.chg hC4 (by simp)
      have c0 : w4.cell? ⟨x, 0, none⟩ = some (.int .i64 (n : Nat)) := cell_of hT.head
      have hn32 := hT.n32
      have HB4 := Lib.hid b4
      have HC4 := Lib.hid hC4
      have HT := Lib.hid hT
      clear b4 hC4 hT hT0
      go_loop [8] (fun i => ∃ j : Nat, j ≤ n ∧ i = .int .i64 (j : Nat) ∧ ∀ t, t < j → usedF L t = true) (fun i => n - (intOf i).toNat)
      case atStart => exact ⟨0, Nat.zero_le _, rfl, fun t ht => absurd ht (Nat.not_lt_zero _)⟩
      case round =>
        obtain ⟨j, hj, rfl, hall⟩ := hrel
        have HALL := Lib.hid hall
        clear hall
        by_cases hlt : j < n
        · have huj : useF L (j : Int) = usedF L j := by unfold useF; simp
          have hat := rat_any G x n m L w4 (j : Int) ⟨v, rs, HT.out⟩
          go_wp2_with fail
          refine hat.mono ?_
          rintro e5 w5 ⟨⟨p, rfl, hp⟩, rfl⟩
          rcases hp with ⟨hu, i, rfl, _, _⟩ | ⟨hu, rfl⟩
          · rw [huj] at hu
            have HU := Lib.hid hu
            clear hu huj hat
            go_wp2
            go_round
            case rel => exact ⟨j + 1, by omega, by go_num, fun t ht => by
              rcases Nat.lt_or_ge t j with e | e
              · exact HALL.out t e
              · obtain rfl : t = j := by omega
                exact HU.out⟩
            case measure => simp [intOf] <;> omega
          · rw [huj] at hu
            have hfree : freeF L n n 0 = some j := by
              rcases freeF_spec L n n 0 (by omega) with ⟨_, h2⟩ | ⟨i, h1, _, h3, h4, h5⟩
              · have := h2 j (Nat.zero_le _) hlt
                rw [hu] at this
                cases this
              · rcases Nat.lt_trichotomy i j with e | e | e
                · have := HALL.out i e
                  rw [h4] at this
                  cases this
                · rw [h1, e]
                · have := h5 j (Nat.zero_le _) e
                  rw [hu] at this
                  cases this
            have e1 := HR.out
            rw [HE0.out, hfree] at e1
            simp only [Bool.false_eq_true, if_false] at e1
            injection e1 with e1 e2
            injection e2 with e2 e3
            subst e1; subst e2; subst e3
            obtain ⟨av, cv, hv⟩ := HT.out.row.len
            obtain ⟨ln, hln⟩ : ∃ ln, ln = rs.length := ⟨_, rfl⟩
            rw [← hln] at hv
            subst hv
            have hl32 : ln ≤ 32 := by have := HT.out.ok.len; have := HT.out.len; omega
            have hsrc : ∀ W, Chg [] w4 W → (av = none → cv = 0) ∧ (rs.flatMap rfV ≠ [] → av ≠ none) ∧ ∀ p, av = some p → ∀ j u, (rs.flatMap rfV)[j]? = some u → W.cell? (p.add j) = some u := fun W hc => by
              have := HT.out.row.same hc
              rw [hln] at this
              exact this.src
            have HSRC : Hid ((av = none → cv = 0) ∧ (rs.flatMap rfV ≠ [] → av ≠ none)) := Lib.hid ⟨(hsrc w4 (Chg.refl _ _)).1, (hsrc w4 (Chg.refl _ _)).2.1⟩
            have HSR3 : Hid (∀ W, Chg [] w4 W → ∀ p, av = some p → ∀ j u, (rs.flatMap rfV)[j]? = some u → W.cell? (p.add j) = some u) := Lib.hid fun W hc => (hsrc W hc).2.2
            have HFL : Hid ((rs.flatMap rfV).length = ln * 5) := Lib.hid (by rw [hln]; exact R.flat_len rfV 5 rfV_len rs)
            have HONE := Lib.hid (rf_one rs HT.out.vs)
            have HON5 : Hid (∀ u ∈ [Value.int .i64 (j : Nat), .string nf, .int .u16 (q.ty : Nat), .int .u16 (q.cl : Nat), .slice none 0 0], u.oneCell' = true) := Lib.hid (by
              intro u hu
              simp at hu
              rcases hu with rfl | rfl | rfl | rfl | rfl <;> rfl)
            have HLN := Lib.hid hln
            have HLE := Lib.hid hl32
            have HHD := Lib.hid HT.out.head
            have x0 : w4.cell? ⟨x, 2, none⟩ = some (.slice av ln cv) := cell_of HT.out.head
            have y0 : w4.cell? ⟨p0, 0, none⟩ = some (.string nf) := cell_of HB4.out
            have y01 : w4.cell? ⟨p0, 1, none⟩ = some (.int .u16 (q.ty : Nat)) := cell_of HB4.out
            have y02 : w4.cell? ⟨p0, 2, none⟩ = some (.int .u16 (q.cl : Nat)) := cell_of HB4.out
            have x1a : (w4.alloc (.cells #[] 98)).cell? ⟨x, 2, none⟩ = some (.slice av ln cv) := ((Chg.refl [] w4).alloc _).cell x0 (by simp)
            have x1b : (w4.alloc (.cells #[.int .i64 (j : Nat), .string nf, .int .u16 (q.ty : Nat), .int .u16 (q.cl : Nat), .slice none 0 0] 98)).cell? ⟨x, 2, none⟩ = some (.slice av ln cv) := ((Chg.refl [] w4).alloc _).cell x0 (by simp)
            have x2a : ((w4.alloc (.cells #[] 98)).alloc (.cells #[.int .i64 (j : Nat), .string nf, .int .u16 (q.ty : Nat), .int .u16 (q.cl : Nat), .slice none 0 0] 98)).cell? ⟨x, 2, none⟩ = some (.slice av ln cv) := (((Chg.refl [] w4).alloc _).alloc _).cell x0 (by simp)
            have x2b : ((w4.alloc (.cells #[.int .i64 (j : Nat), .string nf, .int .u16 (q.ty : Nat), .int .u16 (q.cl : Nat), .slice none 0 0] 98)).alloc (.cells #[] 98)).cell? ⟨x, 2, none⟩ = some (.slice av ln cv) := (((Chg.refl [] w4).alloc _).alloc _).cell x0 (by simp)
            have y1a : (w4.alloc (.cells #[] 98)).cell? ⟨p0, 0, none⟩ = some (.string nf) := ((Chg.refl [] w4).alloc _).cell y0 (by simp)
            have y1b : (w4.alloc (.cells #[] 98)).cell? ⟨p0, 1, none⟩ = some (.int .u16 (q.ty : Nat)) := ((Chg.refl [] w4).alloc _).cell y01 (by simp)
            have y1c : (w4.alloc (.cells #[] 98)).cell? ⟨p0, 2, none⟩ = some (.int .u16 (q.cl : Nat)) := ((Chg.refl [] w4).alloc _).cell y02 (by simp)
            obtain ⟨i0, z, hi0, hz0, hz1, hz2, hz3⟩ := info_sizes elem_rf
            have HU := Lib.hid hu
            clear hln hl32 hsrc hu huj hat hfree
            go_wp2_with fail
            go_region_law (first | (refine step_append_src (o := ⟨some 42, _, _, _, _, _⟩) (by rfl) (.tmp 37) (.tmp 41) 94 (by rfl) w4.heap.size 98 i0 z 5 56 Try.underlying94 hi0 hz0 hz1 hz2 hz3 (by decide) (.slice (some ⟨_, 0, none⟩) 0 0) 0 [] (by rfl) (own_mt (by repeat (first | ((with_reducible refine heap_new' _ _ _ ?_); (first | rfl | (simp; done))) | (with_reducible refine heap_drewR ?_) | (with_reducible refine heap_old ?_) | ((with_reducible refine R.grown_at hg1 ?_ ?_); rotate_left; (intro e; simp [Value.ownBlock] at e <;> omega)))) (by first | omega | (simp; omega) | (simp; done))) av ln cv (rs.flatMap rfV) (by rfl) HSRC.out.1 HSRC.out.2 HFL.out (HSR3.out _ (by repeat (first | (with_reducible exact Chg.refl _ _) | (with_reducible refine Chg.alloc ?_ _) | (with_reducible refine Chg.drew ?_)))) HONE.out (by have := HLE.out; unfold maxLen; omega) (by have := HLE.out; omega) (by first | omega | (simp; omega) | (simp; done)) ?_; intro v1 w1 hown1 hg1 _; rw [HLN.out] at hown1; obtain ⟨a1, c1, rfl, hO⟩ := ownRF hown1 HLN.out; have hc1 : Chg [] w4 w1 := (Chg.grown (w := _) (by repeat (first | (with_reducible exact Chg.refl _ _) | (with_reducible refine Chg.alloc ?_ _) | (with_reducible refine Chg.drew ?_))) hg1 (fun k hk => by injection hk with hk; subst hk; right; first | omega | (simp; omega) | (simp; done))); have x1 := hc1.cell x0 (by simp); have y1 := hc1.cell y0 (by simp); have y2 := hc1.cell y01 (by simp); have y3 := hc1.cell y02 (by simp)) | (refine step_append_own' (o := ⟨some 47, _, _, _, _, _⟩) _ (by rfl) (.tmp 42) (.tmp 46) 94 (by rfl) w4.heap.size 98 i0 z 5 56 Try.underlying94 hi0 hz0 hz1 hz2 hz3 (by decide) (.slice a1 ln c1) ln (rs.flatMap rfV) (by rfl) (own_nm (R.OwnR.same hO (by repeat (first | (with_reducible exact Chg.refl _ _) | (with_reducible refine Chg.alloc ?_ _) | (with_reducible refine Chg.drew ?_)))) HLN.out) ⟨_, 0, none⟩ 1 1 [.int .i64 (j : Nat), .string nf, .int .u16 (q.ty : Nat), .int .u16 (q.cl : Nat), .slice none 0 0] (by rfl) (by rfl) (news5 (t := 98) (by repeat (first | ((with_reducible refine heap_new' _ _ _ ?_); (first | rfl | (simp; done))) | (with_reducible refine heap_drewR ?_) | (with_reducible refine heap_old ?_) | ((with_reducible refine R.grown_at hg1 ?_ ?_); rotate_left; (intro e; simp [Value.ownBlock] at e <;> omega))))) HON5.out (ln + 1) rfl _ rfl (by have := HLE.out; unfold maxLen; omega) (by have := HLE.out; omega) (Nat.le_trans hc1.size (by refine Chg.size (S := []) ?_; repeat (first | (with_reducible exact Chg.refl _ _) | (with_reducible refine Chg.alloc ?_ _) | (with_reducible refine Chg.drew ?_)))) ?_; intro b7 c7 w7 own7 hg7 _; have hc7 : Chg [] w4 w7 := (Chg.trans hc1 (by repeat (first | (with_reducible exact Chg.refl _ _) | (with_reducible refine Chg.alloc ?_ _) | (with_reducible refine Chg.drew ?_)))).grown hg7 (fun g hg => .inr (hO.blk g hg).1); have x7 := hc7.cell x0 (by simp); have f7 : w7.frozen? ⟨x, 2, none⟩ = false := free_of (hc7.keep HHD.out (by simp))))
            all_goals
              have HO7 := Lib.hid own7
              have HC7 := Lib.hid hc7
              clear own7 hc7 hg7 hO hc1 hg1 x1 y1 y2 y3 x7 f7 x0 y0 y01 y02 x1a x1b x2a x2b y1a y1b y1c
              go_wp2
              go_ret2
              refine ⟨rfl, ?_⟩
              have hfl : R.OwnR 98 5 rfV w4.heap.size w7 (.slice b7 (ln + 1) c7) (rs ++ [⟨j, foldQ q, .slice none 0 0⟩]) := by
                refine R.OwnR.snoc ?_
                have e : rfV ⟨j, foldQ q, .slice none 0 0⟩ = [Value.int .i64 (j : Nat), .string nf, .int .u16 (q.ty : Nat), .int .u16 (q.cl : Nat), .slice none 0 0] := by rw [HNF.out]; rfl
                rw [e, ← HLN.out]
                exact HO7.out
              have hpw : Pw (RecOk G w7) (rs ++ [⟨j, foldQ q, .slice none 0 0⟩]) (L ++ [⟨j, foldQ q, []⟩]) := by
                refine (HT.out.chg HC7.out (by simp)).pw.append ⟨rfl, fun i hi hi' => ?_⟩
                have : i = 0 := by simp at hi; exact hi
                subst this
                exact ⟨rfl, rfl, .inl ⟨rfl, none, 0, rfl⟩, fun g hg => by simp [Value.ownBlock] at hg, fun n c e => by injection e with _ _ e; exact e.symm⟩
              have hm : mayB q.name = true := HY.out.symm
              have hfn : findF L (foldQ q) = none := by
                have := HE1.out
                cases hh : findF L (foldQ q) with
                | none => rfl
                | some s => rw [hh] at this; cases this
              have hok : OkF n m (L ++ [⟨j, foldQ q, []⟩]) := HT.out.ok.begin (f := ⟨j, foldQ q, []⟩) HU.out hfn hlt (mayB_fold hm) (foldL_again q.name) ⟨(okQ_fold hq).ty, (okQ_fold hq).cl⟩ (Nat.zero_le _)
              obtain ⟨G', h1, h2, h3⟩ := HT.out.store HC7.out hfl hpw (fun i hi g hg => by
                by_cases hlt2 : i < rs.length
                · rw [List.getElem_append_left hlt2] at hg
                  exact (HT.out.nq i hlt2 g hg).1
                · rw [List.getElem_append_right (by omega)] at hg
                  simp [Value.ownBlock] at hg) hok
              refine ⟨G', h1, (HC4.out.mono (by simp)).trans h2, fun y hy => ?_⟩
              rcases h3 y hy with e | e
              · exact .inl e
              · exact .inr (Nat.le_trans HC4.out.size e)
        · obtain rfl : j = n := by omega
          have hfree : freeF L j j 0 = none := by
            rcases freeF_spec L j j 0 (by omega) with ⟨h1, _⟩ | ⟨i, _, _, h3, h4, _⟩
            · exact h1
            · have := HALL.out i h3
              rw [h4] at this
              cases this
          have e1 := HR.out
          rw [HE0.out, hfree] at e1
          simp only [Bool.false_eq_true, if_false] at e1
          injection e1 with e1 e2
          injection e2 with e2 e3
          subst e1; subst e2; subst e3
          clear hfree
          go_wp2
          go_ret2
          exact ⟨rfl, RNext.refl H.out HC4.out⟩
end

end Go.Proofs.Ytopkbchjlifflaa
