/- The walks of package sip: the Hash's Sum, the package's Sum. -/
import Derived.Test.YthaikobmelalgaaSipE
namespace Go.Proofs.Ythaikobmelalgaa
open Go.RowKit

theorem round4 (s : St) (hs : s.ok) (t : St) (ht : Hid (t = roundN s)) (w : World) :
    Calls Try.prog 21 #[.agg #[.int .u64 s.a, .int .u64 s.b, .int .u64 s.c, .int .u64 s.d]] w fun e w' => e = .returned (.agg #[.int .u64 t.a, .int .u64 t.b, .int .u64 t.c, .int .u64 t.d]) ∧ Chg [] w w' :=
  (round_any s.a s.b s.c s.d hs.1 hs.2.1 hs.2.2.1 hs.2.2.2 w).mono fun e w' h => ⟨by rw [ht.out]; exact h.1, h.2⟩

theorem sum_nil (w : World) :
    Calls Try.prog 13 #[.pointer none] w fun e w' => e = .returned (.int .u64 0) ∧ w = w' := by
  go_enter Try.func13, Try.ntmps13
  go_wp2
  go_ret
  exact ⟨rfl, rfl⟩

/-- Eight bytes in a block. -/
def By8 (w : World) (p x0 x1 x2 x3 x4 x5 x6 x7 : Nat) : Prop := w.heap[p]? = some (.cells #[.int .u8 x0, .int .u8 x1, .int .u8 x2, .int .u8 x3, .int .u8 x4, .int .u8 x5, .int .u8 x6, .int .u8 x7] 38 (0, 0))
theorem by8 {w : World} {p x0 x1 x2 x3 x4 x5 x6 x7 : Nat} (h : By8 w p x0 x1 x2 x3 x4 x5 x6 x7) : w.cell? ⟨p, 0, none⟩ = some (.int .u8 x0) ∧ w.cell? ⟨p, 1, none⟩ = some (.int .u8 x1) ∧ w.cell? ⟨p, 2, none⟩ = some (.int .u8 x2) ∧ w.cell? ⟨p, 3, none⟩ = some (.int .u8 x3) ∧ w.cell? ⟨p, 4, none⟩ = some (.int .u8 x4) ∧ w.cell? ⟨p, 5, none⟩ = some (.int .u8 x5) ∧ w.cell? ⟨p, 6, none⟩ = some (.int .u8 x6) ∧ w.cell? ⟨p, 7, none⟩ = some (.int .u8 x7) :=
  ⟨(cell_of h).trans rfl, (cell_of h).trans rfl, (cell_of h).trans rfl, (cell_of h).trans rfl, (cell_of h).trans rfl, (cell_of h).trans rfl, (cell_of h).trans rfl, (cell_of h).trans rfl⟩

/-- What holds at every moment of the region in Sum. -/
structure SumS (w W : World) (b p k0 k1 : Nat) (v : St) (n x0 x1 x2 x3 x4 x5 x6 x7 m : Nat) : Prop where
  by8 : By8 W p x0 x1 x2 x3 x4 x5 x6 m
  raw : RawH W b k0 k1 v [x0, x1, x2, x3, x4, x5, x6, x7] n
  c : Chg [] w W
section
variable {w W W' : World} {b p k0 k1 : Nat} {v : St} {n x0 x1 x2 x3 x4 x5 x6 x7 m : Nat}
theorem SumS.chg (h : SumS w W b p k0 k1 v n x0 x1 x2 x3 x4 x5 x6 x7 m) (hc : Chg [] W W') : SumS w W' b p k0 k1 v n x0 x1 x2 x3 x4 x5 x6 x7 m :=
  ⟨hc.keep h.by8 (by simp), h.raw.chg hc (by simp), h.c.trans hc⟩
theorem SumS.alloc (h : SumS w W b p k0 k1 v n x0 x1 x2 x3 x4 x5 x6 x7 m) (o : Obj) : SumS w (W.alloc o) b p k0 k1 v n x0 x1 x2 x3 x4 x5 x6 x7 m := h.chg ((Chg.refl _ _).alloc o)
theorem SumS.set4 (h : SumS w W b p k0 k1 v n x0 x1 x2 x3 x4 x5 x6 x7 m) {q T : Nat} (_ : StAt W q T 0 0 0 0) (h1 : q ≠ p) (h2 : q ≠ b) (h3 : w.heap.size ≤ q) (t : St) : SumS w ((((W.setCell ⟨q, 0, none⟩ (.int .u64 t.a)).setCell ⟨q, 1, none⟩ (.int .u64 t.b)).setCell ⟨q, 2, none⟩ (.int .u64 t.c)).setCell ⟨q, 3, none⟩ (.int .u64 t.d)) b p k0 k1 v n x0 x1 x2 x3 x4 x5 x6 x7 m := by
  have hc : Chg [q] W ((((W.setCell ⟨q, 0, none⟩ (.int .u64 t.a)).setCell ⟨q, 1, none⟩ (.int .u64 t.b)).setCell ⟨q, 2, none⟩ (.int .u64 t.c)).setCell ⟨q, 3, none⟩ (.int .u64 t.d)) := ((((Chg.refl _ _).setCell (.inl (by simp)) _).setCell (.inl (by simp)) _).setCell (.inl (by simp)) _).setCell (.inl (by simp)) _
  exact ⟨hc.keep h.by8 (by simpa using Ne.symm h1), h.raw.chg hc (by simpa using Ne.symm h2), h.c.trans_new hc (by simpa using h3)⟩
theorem SumS.all (h : SumS w W b p k0 k1 v n x0 x1 x2 x3 x4 x5 x6 x7 m) : (W.cell? ⟨p, 0, none⟩ = some (.int .u8 x0) ∧ W.cell? ⟨p, 1, none⟩ = some (.int .u8 x1) ∧ W.cell? ⟨p, 2, none⟩ = some (.int .u8 x2) ∧ W.cell? ⟨p, 3, none⟩ = some (.int .u8 x3) ∧ W.cell? ⟨p, 4, none⟩ = some (.int .u8 x4) ∧ W.cell? ⟨p, 5, none⟩ = some (.int .u8 x5) ∧ W.cell? ⟨p, 6, none⟩ = some (.int .u8 x6) ∧ W.cell? ⟨p, 7, none⟩ = some (.int .u8 m)) ∧ SumS w W b p k0 k1 v n x0 x1 x2 x3 x4 x5 x6 x7 m := ⟨Go.Proofs.Ythaikobmelalgaa.by8 h.by8, h⟩
end

set_option maxHeartbeats 4000000 in
theorem sum_raw (b k0 k1 : Nat) (v : St) (r : List Nat) (n : Nat) (w : World) (h : RawH w b k0 k1 v r n) (h0 : k0 < 18446744073709551616) (h1 : k1 < 18446744073709551616) (hv : v.ok) (hr : ∀ x ∈ r, x < 256) (hn : n ≤ 4000000000) :
    Calls Try.prog 13 #[.pointer (some ⟨b, 0, none⟩)] w fun e w' => e = .returned (.int .u64 (finishN (takeN (beforeN k0 k1 v n 7) (wordN (r.set 7 (n % 256)))) : Nat)) ∧ Chg [] w w' := by
  obtain ⟨x0, x1, x2, x3, x4, x5, x6, x7, rfl⟩ := len8 _ h.1
  obtain ⟨y6, y7, y8, y9, y10, y11, y12, y13⟩ := rest8 h
  obtain ⟨m, hm⟩ : ∃ m, m = n % 256 := ⟨_, rfl⟩
  have em : (n : Int) % 256 = (m : Int) := by omega
  have hlt := h.lt
  have ct := h.ct
  rw [← hm]
  have hr8 : ∀ x ∈ [x0, x1, x2, x3, x4, x5, x6, m], x < 256 := by
    intro x hx
    rcases (show x = m ∨ x ∈ [x0, x1, x2, x3, x4, x5, x6, x7] by simp at hx ⊢; omega) with e | e
    · omega
    · exact hr x e
  rw [show [x0, x1, x2, x3, x4, x5, x6, x7].set 7 m = [x0, x1, x2, x3, x4, x5, x6, m] from rfl]
  have HR8 := Lib.hid hr8
  have H := Lib.hid h
  obtain ⟨u, hu⟩ : ∃ u, u = beforeN k0 k1 v n 7 := ⟨_, rfl⟩
  have uok : u.ok := by rw [hu]; unfold beforeN; split; exact beginN_ok _ _ h0 h1; exact hv
  obtain ⟨t, ht⟩ : ∃ t, t = takeN u (wordN [x0, x1, x2, x3, x4, x5, x6, m]) := ⟨_, rfl⟩
  have tok : t.ok := by rw [ht]; exact takeN_ok _ _ uok (word8_lt _ rfl HR8.out)
  rw [← hu, ← ht]
  obtain ⟨c1, hc1⟩ : ∃ x, x = t.c ^^^ 255 := ⟨_, rfl⟩
  have lc1 : c1 < 18446744073709551616 := by rw [hc1]; exact xor_lt' tok.2.2.1 (by decide)
  have ec1 : bits .xor .u64 (t.c : Int) 255 = (c1 : Int) := by rw [hc1]; exact xor_lit t.c 255 tok.2.2.1 (by decide)
  obtain ⟨s1, hs1⟩ : ∃ s, s = roundN ⟨t.a, t.b, c1, t.d⟩ := ⟨_, rfl⟩
  have ok1 : s1.ok := by rw [hs1]; exact roundN_ok _ ⟨tok.1, tok.2.1, lc1, tok.2.2.2⟩
  obtain ⟨s2, hs2⟩ : ∃ s, s = roundN s1 := ⟨_, rfl⟩
  have ok2 : s2.ok := by rw [hs2]; exact roundN_ok _ ok1
  obtain ⟨s3, hs3⟩ : ∃ s, s = roundN s2 := ⟨_, rfl⟩
  have ok3 : s3.ok := by rw [hs3]; exact roundN_ok _ ok2
  obtain ⟨s4, hs4⟩ : ∃ s, s = roundN s3 := ⟨_, rfl⟩
  have ok4 : s4.ok := by rw [hs4]; exact roundN_ok _ ok3
  obtain ⟨g1, hg1⟩ : ∃ x, x = s4.a ^^^ s4.b := ⟨_, rfl⟩
  have lg1 : g1 < 18446744073709551616 := by rw [hg1]; exact xor_lt' ok4.1 ok4.2.1
  have eg1 := xor_at s4.a s4.b g1 ok4.1 ok4.2.1 hg1
  obtain ⟨g2, hg2⟩ : ∃ x, x = g1 ^^^ s4.c := ⟨_, rfl⟩
  have lg2 : g2 < 18446744073709551616 := by rw [hg2]; exact xor_lt' lg1 ok4.2.2.1
  have eg2 := xor_at g1 s4.c g2 lg1 ok4.2.2.1 hg2
  obtain ⟨g3, hg3⟩ : ∃ x, x = g2 ^^^ s4.d := ⟨_, rfl⟩
  have eg3 := xor_at g2 s4.d g3 lg2 ok4.2.2.2 hg3
  have FIN : finishN t = g3 := by
    unfold finishN
    simp only []
    rw [← hc1, ← hs1, ← hs2, ← hs3, ← hs4, ← hg1, ← hg2, ← hg3]
  rw [FIN]
  have HU := Lib.hid hu
  have HT := Lib.hid ht
  have HS1 := Lib.hid hs1
  have HS2 := Lib.hid hs2
  have HS3 := Lib.hid hs3
  have HS4 := Lib.hid hs4
  clear hm hr8 h hr hu ht hc1 hs1 hs2 hs3 hs4 hg1 hg2 hg3 FIN
  go_enter Try.func13, Try.ntmps13
  go_wp2
  obtain ⟨p, hp⟩ : ∃ p, p = w.heap.size := ⟨_, rfl⟩
  refine wp_abs ?_
  intro w1 hw1
  have p1 : By8 w1 p x0 x1 x2 x3 x4 x5 x6 m := by rw [hw1, hp]; exact heap_new _ _
  have r1 : RawH w1 b k0 k1 v [x0, x1, x2, x3, x4, x5, x6, x7] n := by rw [hw1]; exact H.out.chg ((Chg.refl [] _).alloc _) (by simp)
  have hC1 : Chg [] w w1 := by rw [hw1]; exact (Chg.refl _ _).alloc _
  rw [← hp]
  have hp' : w.heap.size ≤ p := by omega
  clear hw1 hp y6 y7 y8 y9 y10 y11 y12 y13 ct hlt
  have HP1 : Hid (SumS w w1.drew b p k0 k1 v n x0 x1 x2 x3 x4 x5 x6 x7 m) := Lib.hid (SumS.mk p1 r1 hC1.drew)
  have lp : p < w1.heap.size := lt_of_block p1
  have lb : b < w1.heap.size := r1.lt
  clear p1 r1
  go_region_held3 (fun W => (W.cell? ⟨p, 0, none⟩ = some (.int .u8 x0) ∧ W.cell? ⟨p, 1, none⟩ = some (.int .u8 x1) ∧ W.cell? ⟨p, 2, none⟩ = some (.int .u8 x2) ∧ W.cell? ⟨p, 3, none⟩ = some (.int .u8 x3) ∧ W.cell? ⟨p, 4, none⟩ = some (.int .u8 x4) ∧ W.cell? ⟨p, 5, none⟩ = some (.int .u8 x5) ∧ W.cell? ⟨p, 6, none⟩ = some (.int .u8 x6) ∧ W.cell? ⟨p, 7, none⟩ = some (.int .u8 m)) ∧ SumS w W b p k0 k1 v n x0 x1 x2 x3 x4 x5 x6 x7 m)
    (first | exact SumS.all HP1.out | (with_reducible exact SumS.all HP3.out) | (with_reducible exact SumS.all HP4.out) | (with_reducible exact SumS.all (HP3.out.alloc _)) | (with_reducible exact SumS.all HP2.out) | exact SumS.all (HP2.out.alloc _) | exact SumS.all (HP1.out.alloc _))
    (first | (go_at_call 19; go_must (refine (before_lit b k0 k1 n 7 7 v [x0, x1, x2, x3, x4, x5, x6, x7] u HU rfl h0 h1 _ (‹_ ∧ SumS _ _ _ _ _ _ _ _ _ _ _ _ _ _ _ _ _›).2.raw).mono ?_; rintro e9 w2 ⟨rfl, hc2⟩; have HP2 := Lib.hid ((‹_ ∧ SumS _ _ _ _ _ _ _ _ _ _ _ _ _ _ _ _ _›).2.chg hc2); have lw2 : w1.heap.size ≤ w2.heap.size := (by have := hc2.size; simp at this; omega); try (have z2 : StAt w2 w1.heap.size 37 0 0 0 0 := hc2.keep (heap_new' _ _ _ rfl) (by simp)); clear hc2)) | (go_at_call 20; go_must (refine (take8 u uok x0 x1 x2 x3 x4 x5 x6 m HR8.out t HT _).mono ?_; rintro e9 w3 ⟨rfl, hc3⟩; have HP3 := Lib.hid ((‹_ ∧ SumS _ _ _ _ _ _ _ _ _ _ _ _ _ _ _ _ _›).2.chg hc3); first | (have z3 : StAt w3 w1.heap.size 37 0 0 0 0 := hc3.keep z2 (by simp); have HP4 := Lib.hid (HP3.out.set4 z3 (by omega) (by omega) (by have := hC1.size; omega) t); have m0 := z3.c0; have m1 := z3.c1; have m2 := z3.c2; have m3 := z3.c3; have f0 := z3.fr 0; have f1 := z3.fr 1; have f2 := z3.fr 2; have f3 := z3.fr 3) | (have z3 : StAt w3 w2.heap.size 37 0 0 0 0 := hc3.keep (heap_new' _ _ _ rfl) (by simp); have HP4 := Lib.hid (HP3.out.set4 z3 (by omega) (by omega) (by have := hC1.size; omega) t); have m0 := z3.c0; have m1 := z3.c1; have m2 := z3.c2; have m3 := z3.c3; have f0 := z3.fr 0; have f1 := z3.fr 1; have f2 := z3.fr 2; have f3 := z3.fr 3) | skip; clear hc3)))
  · have Z : StAt (w3.alloc (.cells #[.int .u64 t.a, .int .u64 t.b, .int .u64 t.c, .int .u64 t.d] 37)) w3.heap.size 37 t.a t.b t.c t.d := heap_new _ _
    have HC : Chg [] w (w3.alloc (.cells #[.int .u64 t.a, .int .u64 t.b, .int .u64 t.c, .int .u64 t.d] 37)) := HP3.out.c.alloc _
    obtain ⟨q, hq⟩ : ∃ q, q = w3.heap.size := ⟨_, rfl⟩
    have hwq : w.heap.size ≤ q := by have := HP3.out.c.size; omega
    generalize w3.alloc (.cells #[.int .u64 t.a, .int .u64 t.b, .int .u64 t.c, .int .u64 t.d] 37) = W at Z HC ⊢
    rw [← hq] at Z ⊢
    clear hq
    have k0 := Z.c0
    have k1 := Z.c1
    have k2 := Z.c2
    have k3 := Z.c3
    have f2 := Z.fr 2
    go_wp2_with fail
    refine (round4 ⟨t.a, t.b, c1, t.d⟩ ⟨tok.1, tok.2.1, lc1, tok.2.2.2⟩ s1 HS1 _).mono ?_
    rintro e v1 ⟨rfl, d1⟩
    go_wp2_with fail
    refine (round4 s1 ok1 s2 HS2 _).mono ?_
    rintro e v2 ⟨rfl, d2⟩
    go_wp2_with fail
    refine (round4 s2 ok2 s3 HS3 _).mono ?_
    rintro e v3 ⟨rfl, d3⟩
    go_wp2_with fail
    refine (round4 s3 ok3 s4 HS4 _).mono ?_
    rintro e v4 ⟨rfl, d4⟩
    have hD : Chg [] (W.setCell ⟨q, 2, none⟩ (.int .u64 c1)) v4 := ((d1.trans d2).trans d3).trans d4
    have Z4 : StAt v4 q 37 t.a t.b c1 t.d := hD.keep (Z.s2 c1) (by simp)
    have HC4 : Chg [] w v4 := (HC.setCell (.inr hwq) _).trans hD
    clear d1 d2 d3 d4 hD k0 k1 k2 k3 f2 Z HC
    have k0 := Z4.c0
    have k1 := Z4.c1
    have k2 := Z4.c2
    have k3 := Z4.c3
    have f0 := Z4.fr 0
    have f1 := Z4.fr 1
    have f2 := Z4.fr 2
    have f3 := Z4.fr 3
    go_wp2_with fail
    go_ret
    refine ⟨rfl, ?_⟩
    iterate 4 (refine Chg.setCell ?_ (.inr hwq) _)
    exact HC4
  · have Z := (((z3.s0 t.a).s1 t.b).s2 t.c).s3 t.d
    have HC := HP4.out.c
    obtain ⟨q, hq⟩ : ∃ q, q = w2.heap.size := ⟨_, rfl⟩
    have hwq : w.heap.size ≤ q := by have := hC1.size; omega
    rw [← hq] at Z HC ⊢
    generalize (((w3.setCell ⟨q, 0, none⟩ (.int .u64 t.a)).setCell ⟨q, 1, none⟩ (.int .u64 t.b)).setCell ⟨q, 2, none⟩ (.int .u64 t.c)).setCell ⟨q, 3, none⟩ (.int .u64 t.d) = W at Z HC ⊢
    clear hq m0 m1 m2 m3 f0 f1 f2 f3
    have k0 := Z.c0
    have k1 := Z.c1
    have k2 := Z.c2
    have k3 := Z.c3
    have f2 := Z.fr 2
    go_wp2_with fail
    refine (round4 ⟨t.a, t.b, c1, t.d⟩ ⟨tok.1, tok.2.1, lc1, tok.2.2.2⟩ s1 HS1 _).mono ?_
    rintro e v1 ⟨rfl, d1⟩
    go_wp2_with fail
    refine (round4 s1 ok1 s2 HS2 _).mono ?_
    rintro e v2 ⟨rfl, d2⟩
    go_wp2_with fail
    refine (round4 s2 ok2 s3 HS3 _).mono ?_
    rintro e v3 ⟨rfl, d3⟩
    go_wp2_with fail
    refine (round4 s3 ok3 s4 HS4 _).mono ?_
    rintro e v4 ⟨rfl, d4⟩
    have hD : Chg [] (W.setCell ⟨q, 2, none⟩ (.int .u64 c1)) v4 := ((d1.trans d2).trans d3).trans d4
    have Z4 : StAt v4 q 37 t.a t.b c1 t.d := hD.keep (Z.s2 c1) (by simp)
    have HC4 : Chg [] w v4 := (HC.setCell (.inr hwq) _).trans hD
    clear d1 d2 d3 d4 hD k0 k1 k2 k3 f2 Z HC
    have k0 := Z4.c0
    have k1 := Z4.c1
    have k2 := Z4.c2
    have k3 := Z4.c3
    have f0 := Z4.fr 0
    have f1 := Z4.fr 1
    have f2 := Z4.fr 2
    have f3 := Z4.fr 3
    go_wp2_with fail
    go_ret
    refine ⟨rfl, ?_⟩
    iterate 4 (refine Chg.setCell ?_ (.inr hwq) _)
    exact HC4
  · have Z := (((z3.s0 t.a).s1 t.b).s2 t.c).s3 t.d
    have HC := HP4.out.c
    obtain ⟨q, hq⟩ : ∃ q, q = w1.heap.size := ⟨_, rfl⟩
    have hwq : w.heap.size ≤ q := by have := hC1.size; omega
    rw [← hq] at Z HC ⊢
    generalize (((w3.setCell ⟨q, 0, none⟩ (.int .u64 t.a)).setCell ⟨q, 1, none⟩ (.int .u64 t.b)).setCell ⟨q, 2, none⟩ (.int .u64 t.c)).setCell ⟨q, 3, none⟩ (.int .u64 t.d) = W at Z HC ⊢
    clear hq m0 m1 m2 m3 f0 f1 f2 f3
    have k0 := Z.c0
    have k1 := Z.c1
    have k2 := Z.c2
    have k3 := Z.c3
    have f2 := Z.fr 2
    go_wp2_with fail
    refine (round4 ⟨t.a, t.b, c1, t.d⟩ ⟨tok.1, tok.2.1, lc1, tok.2.2.2⟩ s1 HS1 _).mono ?_
    rintro e v1 ⟨rfl, d1⟩
    go_wp2_with fail
    refine (round4 s1 ok1 s2 HS2 _).mono ?_
    rintro e v2 ⟨rfl, d2⟩
    go_wp2_with fail
    refine (round4 s2 ok2 s3 HS3 _).mono ?_
    rintro e v3 ⟨rfl, d3⟩
    go_wp2_with fail
    refine (round4 s3 ok3 s4 HS4 _).mono ?_
    rintro e v4 ⟨rfl, d4⟩
    have hD : Chg [] (W.setCell ⟨q, 2, none⟩ (.int .u64 c1)) v4 := ((d1.trans d2).trans d3).trans d4
    have Z4 : StAt v4 q 37 t.a t.b c1 t.d := hD.keep (Z.s2 c1) (by simp)
    have HC4 : Chg [] w v4 := (HC.setCell (.inr hwq) _).trans hD
    clear d1 d2 d3 d4 hD k0 k1 k2 k3 f2 Z HC
    have k0 := Z4.c0
    have k1 := Z4.c1
    have k2 := Z4.c2
    have k3 := Z4.c3
    have f0 := Z4.fr 0
    have f1 := Z4.fr 1
    have f2 := Z4.fr 2
    have f3 := Z4.fr 3
    go_wp2_with fail
    go_ret
    refine ⟨rfl, ?_⟩
    iterate 4 (refine Chg.setCell ?_ (.inr hwq) _)
    exact HC4

end Go.Proofs.Ythaikobmelalgaa
