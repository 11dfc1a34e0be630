/- The walks of folded, Expire, Len. -/
import Derived.Test.YtgdnfempcjlipaaCacJ
namespace Go.Proofs.Ytgdnfempcjlipaa
open Go.RowKit Go.Maps

theorem foldS_size (s : ByteArray) : (foldS s).size ≤ 255 := by
  have := foldL_len s.data.toList
  show (foldL s.data.toList).toArray.size ≤ 255
  simpa using this
set_option maxRecDepth 100000 in
set_option maxHeartbeats 4000000 in
theorem folded_any (q : Qn) (w : World) (hq : q.nm.size ≤ maxLen) :
    Calls Try.prog 28 #[.agg (qV q)] w fun e w' => e = .returned (.agg (qV (foldQ q))) ∧ Chg [] w w' := by
  obtain ⟨nm, ty, cl⟩ := q
  unfold qV foldQ
  simp only at hq ⊢
  obtain ⟨fn, hfn⟩ : ∃ fn, fn = foldS nm := ⟨_, rfl⟩
  rw [← hfn]
  have HFN := Lib.hid hfn
  clear hfn
  go_enter Try.func28, Try.ntmps28
  go_wp2_with fail
  obtain ⟨pb, hpb⟩ : ∃ pb, pb = w.heap.size := ⟨_, rfl⟩
  rw [← hpb]
  have hcall := fun W => fold_any nm fn W hq HFN
  refine (hcall _).mono ?_
  rintro e9 w1 ⟨rfl, hc1⟩
  have hc0 : Chg [] w w1 := (((Chg.refl [] w).alloc _).alloc _).trans hc1
  have h1 : w1.heap[pb]? = some (.cells #[.string nm, .int .u16 (ty : Nat), .int .u16 (cl : Nat)] 24 (0, 0)) := hc1.keep (by rw [hpb]; exact heap_old (heap_new _ _)) (by simp)
  have h2 : w1.heap[pb + 1]? = some (.cells #[.string ⟨#[]⟩, .int .u16 0, .int .u16 0] 24 (0, 0)) := hc1.keep (by rw [hpb]; exact heap_new' _ _ _ (by simp)) (by simp)
  have HPB := Lib.hid hpb
  have H1 := Lib.hid h1
  have H2 := Lib.hid h2
  have k0 : w1.cell? ⟨pb, 0, none⟩ = some (.string nm) := cell_of h1
  have k1 : w1.cell? ⟨pb, 1, none⟩ = some (.int .u16 (ty : Nat)) := cell_of h1
  have k2 : w1.cell? ⟨pb, 2, none⟩ = some (.int .u16 (cl : Nat)) := cell_of h1
  have f0 : w1.frozen? ⟨pb, 0, none⟩ = false := free_of h1
  have g0 : w1.cell? ⟨pb + 1, 0, none⟩ = some (.string ⟨#[]⟩) := cell_of h2
  have g1 : w1.cell? ⟨pb + 1, 1, none⟩ = some (.int .u16 0) := cell_of h2
  have g2 : w1.cell? ⟨pb + 1, 2, none⟩ = some (.int .u16 0) := cell_of h2
  have q0 : w1.frozen? ⟨pb + 1, 0, none⟩ = false := free_of h2
  have q1 : w1.frozen? ⟨pb + 1, 1, none⟩ = false := free_of h2
  have q2 : w1.frozen? ⟨pb + 1, 2, none⟩ = false := free_of h2
  have HCH := Lib.hid hc0
  clear hpb hc1 hc0 h1 h2 hcall
  go_wp2_with fail
  have h3 : ((((w1.setCell ⟨pb, 0, none⟩ (.string fn)).setCell ⟨pb + 1, 0, none⟩ (.string fn)).setCell ⟨pb + 1, 1, none⟩ (.int .u16 (ty : Nat))).setCell ⟨pb + 1, 2, none⟩ (.int .u16 (cl : Nat))).heap[pb + 1]? = some (.cells #[.string fn, .int .u16 (ty : Nat), .int .u16 (cl : Nat)] 24 (0, 0)) := by
    rw [heap_set (heap_set (heap_set (c := #[.string ⟨#[]⟩, .int .u16 0, .int .u16 0]) (t := 24) (f := (0, 0)) (by rw [heap_set_other _ (by omega)]; exact H2.out) _) _) _]
    rfl
  have hch : Chg [] w ((((w1.setCell ⟨pb, 0, none⟩ (.string fn)).setCell ⟨pb + 1, 0, none⟩ (.string fn)).setCell ⟨pb + 1, 1, none⟩ (.int .u16 (ty : Nat))).setCell ⟨pb + 1, 2, none⟩ (.int .u16 (cl : Nat))) := by
    have := HPB.out
    exact (((HCH.out.setCell (.inr (by simp; omega)) _).setCell (.inr (by simp; omega)) _).setCell (.inr (by simp; omega)) _).setCell (.inr (by simp; omega)) _
  refine post_abs ?_
  intro w3 hw3
  rw [← hw3] at h3 hch
  have m0 : w3.cell? ⟨pb + 1, 0, none⟩ = some (.string fn) := cell_of h3
  have m1 : w3.cell? ⟨pb + 1, 1, none⟩ = some (.int .u16 (ty : Nat)) := cell_of h3
  have m2 : w3.cell? ⟨pb + 1, 2, none⟩ = some (.int .u16 (cl : Nat)) := cell_of h3
  clear hw3 h3
  exact bodyPost_ret (v := .agg #[.string fn, .int .u16 (ty : Nat), .int .u16 (cl : Nat)]) (by simp [results, Try.results28, go_sem, m0, m1, m2]) rfl ⟨rfl, hch⟩

/-- A cache, by its tick and what it keeps. -/
def CA (F : List Nat) (w : World) (cb n k0 k1 : Nat) (c : Cst) (P : Nat) : Prop := ∃ L p m, CF F w cb n k0 k1 c.now L p m ∧ ensS L = c.M ∧ OkM n c ∧ p ≤ P ∧ m ≤ P
theorem CA.low {F : List Nat} {w : World} {cb n k0 k1 : Nat} {c : Cst} {P : Nat} (h : CA F w cb n k0 k1 c P) : ∀ y ∈ F, y < w.heap.size := by
  obtain ⟨L, p, m, h, _⟩ := h
  exact h.low
theorem CA.ok {F : List Nat} {w : World} {cb n k0 k1 : Nat} {c : Cst} {P : Nat} (h : CA F w cb n k0 k1 c P) : OkM n c := by
  obtain ⟨L, p, m, _, _, h, _⟩ := h
  exact h
theorem CA.noSet {F : List Nat} {w : World} {cb n k0 k1 : Nat} {c : Cst} {P : Nat} (h : CA F w cb n k0 k1 c P) : NoSet F w := by
  obtain ⟨L, p, m, ⟨K, T, h, _⟩, _⟩ := h
  exact h.noSet
theorem CA.other {F S : List Nat} {w w' : World} {cb n k0 k1 : Nat} {c : Cst} {P : Nat} (h : CA F w cb n k0 k1 c P) (hc : Chg S w w') (hS : ∀ y ∈ S, y ∉ F) (hN : NoSet S w) : CA F w' cb n k0 k1 c P := by
  obtain ⟨L, p, m, h1, h2⟩ := h
  exact ⟨L, p, m, h1.other hc hS hN, h2⟩
theorem CA.same {F : List Nat} {w w' : World} {cb n k0 k1 : Nat} {c : Cst} {P : Nat} (h : CA F w cb n k0 k1 c P) (hc : Chg [] w w') : CA F w' cb n k0 k1 c P := h.other hc (by simp) (noSet_nil w)
theorem CA.mono {F : List Nat} {w : World} {cb n k0 k1 : Nat} {c : Cst} {P Q : Nat} (h : CA F w cb n k0 k1 c P) (hP : P ≤ Q) : CA F w cb n k0 k1 c Q := by
  obtain ⟨L, p, m, h1, h2, h3, h4, h5⟩ := h
  exact ⟨L, p, m, h1, h2, h3, by omega, by omega⟩
theorem CA.n256 {F : List Nat} {w : World} {cb n k0 k1 : Nat} {c : Cst} {P : Nat} (h : CA F w cb n k0 k1 c P) : n ≤ 256 := by
  obtain ⟨L, p, m, h1, _⟩ := h
  exact h1.lru.1
theorem ensS_len (L : List Sl) : (ensS L).length = L.length := by simp [ensS]

section
variable (F : List Nat) (cb n k0 k1 : Nat) (c : Cst) (P : Nat) (w : World)
theorem advance_ca (t : Int) (r : Nat) (h : CA F w cb n k0 k1 c P) (hr : Hid (r = c.M.length - (advC c t).M.length)) (hP : P ≤ 1000000) :
    Calls Try.prog 27 #[.pointer (some ⟨cb, 0, none⟩), .int .i64 t] w fun e w' => e = .returned (.int .i64 (r : Nat)) ∧ Aft F w w' fun F' => CA F' w' cb n k0 k1 (advC c t) P := by
  obtain ⟨L, p, m, h1, h2, h3, h4, h5⟩ := h
  have he : (restS L (clampT c.now t)).length = (advC c t).M.length := by
    rw [← ensS_len, restS_ens, h2]
    rfl
  have hl : L.length = c.M.length := by rw [← ensS_len, h2]
  refine (advance_any F cb n k0 k1 c.now L p m w t (clampT c.now t) r h1 rfl (Lib.hid (by rw [hr.out, he, hl])) (by omega) (by omega)).mono ?_
  rintro e w' ⟨rfl, ha⟩
  refine ⟨rfl, ha.mono fun F1 hF1 => ⟨_, p, m, hF1, ?_, h3.adv t, h4, h5⟩⟩
  rw [restS_ens, h2]
  rfl
set_option maxRecDepth 100000 in
theorem expire_any (t : Int) (r : Nat) (h : CA F w cb n k0 k1 c P) (hr : Hid (r = c.M.length - (advC c t).M.length)) (hP : P ≤ 1000000) :
    Calls Try.prog 20 #[.pointer (some ⟨cb, 0, none⟩), .int .i64 t] w fun e w' => e = .returned (.int .i64 (r : Nat)) ∧ Aft F w w' fun F' => CA F' w' cb n k0 k1 (advC c t) P := by
  have HH := Lib.hid h
  clear h
  go_enter Try.func20, Try.ntmps20
  go_wp2_with fail
  refine (advance_ca F cb n k0 k1 c P w t r HH.out hr hP).mono ?_
  rintro e w1 ⟨rfl, ha⟩
  have HA := Lib.hid ha
  clear ha
  go_wp2
  go_ret
  exact ⟨rfl, HA.out⟩
set_option maxRecDepth 100000 in
theorem len_any (r : Nat) (h : CA F w cb n k0 k1 c P) (hr : Hid (r = c.M.length)) :
    Calls Try.prog 14 #[.pointer (some ⟨cb, 0, none⟩)] w fun e w' => e = .returned (.int .i64 (r : Nat)) ∧ Chg [] w w' := by
  obtain ⟨L, p, m, ⟨K, T, ⟨eb, mb, lb, tb, cp, tl, FT, f, es, hC, hF⟩, hcon, hs⟩, h2, h3, h4, h5⟩ := h
  have c6 : w.cell? ⟨cb, 6, none⟩ = some (.pointer (some ⟨lb, 0, none⟩)) := cell_of hC.head
  have HL := Lib.hid hC.lru
  have hl : (rowS L).length = r := by rw [hr.out, ← h2, ensS_len]; simp [rowS]
  have HLL := Lib.hid hl
  clear hC hF hcon hs h2 h3 hl
  go_enter Try.func14, Try.ntmps14
  go_wp2_with fail
  refine (Lr.len_any lb n (rowS L) w HL.out).mono ?_
  rintro e w1 ⟨rfl, ha⟩
  rw [HLL.out]
  have HA := Lib.hid ha
  clear ha
  go_wp2
  go_ret
  exact ⟨rfl, HA.out⟩
end

end Go.Proofs.Ytgdnfempcjlipaa
