/- The statements' helpers: q, says, finds, made. -/
import Derived.Test.YtgdnfempcjlipaaCacT
namespace Go.Proofs.Ytgdnfempcjlipaa
open Go.RowKit Go.Maps

set_option maxRecDepth 100000 in
theorem q_any (n : ByteArray) (w : World) : Calls Try.prog 25 #[.string n] w fun e w' => e = .returned (.agg (qV ⟨n, 1, 1⟩)) ∧ Chg [] w w' := by
  unfold qV
  simp only
  go_enter Try.func25, Try.ntmps25
  go_wp2
  refine post_abs ?_
  intro w3 hw3
  have hch : Chg [] w w3 := by rw [hw3]; first | exact (Chg.refl _ _).alloc _ | exact ((((Chg.refl _ _).alloc _).setCell (.inr (by simp)) _).setCell (.inr (by simp)) _).setCell (.inr (by simp)) _
  have h3 : w3.heap[w.heap.size]? = some (.cells #[.string n, .int .u16 1, .int .u16 1] 24 (0, 0)) := by
    rw [hw3]
    first
      | exact heap_new _ _
      | (rw [heap_set (heap_set (heap_set (heap_new _ _) _) _) _]; rfl)
  have m0 : w3.cell? ⟨w.heap.size, 0, none⟩ = some (.string n) := cell_of h3
  have m1 : w3.cell? ⟨w.heap.size, 1, none⟩ = some (.int .u16 1) := cell_of h3
  have m2 : w3.cell? ⟨w.heap.size, 2, none⟩ = some (.int .u16 1) := cell_of h3
  clear hw3 h3
  exact bodyPost_ret (v := .agg #[.string n, .int .u16 1, .int .u16 1]) (by simp [results, Try.results25, go_sem, m0, m1, m2]) rfl ⟨rfl, hch⟩

def bs (l : List UInt8) : ByteArray := ⟨l.toArray⟩
/-- A verdict, told by its code. -/
def saysV (code : Nat) : Ver := ⟨code, [⟨bs [0], 1, 1, 0, [bs [97, 98, 99, 100]]⟩], []⟩
theorem ownR_one {α : Type} {t : TypeId} {sz : Nat} {f : α → List Value} {x : α} {w : World} {base g : Nat} (h : w.heap[g]? = some (.cells (f x).toArray t (0, 0))) (hsz : (f x).length = sz) (hb : base ≤ g) : R.OwnR t sz f base w (.slice (some ⟨g, 0, none⟩) 1 1) [x] := by
  refine ⟨by simp [hsz], .inr ⟨g, 1, (f x).toArray, rfl, hb, h, by simp, by simp [maxLen], by simp [hsz], ?_⟩⟩
  simp [hsz]
  rw [← hsz, List.take_length]
theorem says_own {w : World} {code base g1 g2 : Nat} (h1 : w.heap[g1]? = some (.cells #[.string (bs [97, 98, 99, 100])] 9 (0, 0)))
    (h2 : w.heap[g2]? = some (.cells #[.string (bs [0]), .int .u16 1, .int .u16 1, .int .u32 0, .slice (some ⟨g1, 0, none⟩) 1 1] 84 (0, 0))) (hc : code < 256) (b1 : base ≤ g1) (b2 : base ≤ g2) :
    OwnV base w (code : Nat) (.slice (some ⟨g2, 0, none⟩) 1 1) (.slice none 0 0) (saysV code) := by
  refine ⟨rfl, hc, ⟨by simp [saysV], [(⟨bs [0], 1, 1, 0, [bs [97, 98, 99, 100]]⟩, .slice (some ⟨g1, 0, none⟩) 1 1)], rfl, ownR_one h2 rfl b2, ?_⟩, OwnSets.nil _ _⟩
  intro x hx
  simp at hx
  subst hx
  exact ⟨⟨by show 1 < 65536; omega, by show 1 < 65536; omega, by show 0 < 4294967296; omega, by show 1 ≤ 1000; omega⟩, ownR_one h1 rfl b1⟩
set_option maxRecDepth 100000 in
theorem says_any (code : Nat) (w : World) (hcd : code < 256) : Calls Try.prog 12 #[.int .u8 (code : Nat)] w fun e w' => ∃ sa oa, e = .returned (.agg #[.int .u8 (code : Nat), .slice sa 1 1, .slice oa 0 0]) ∧ OwnV w.heap.size w' (code : Nat) (.slice sa 1 1) (.slice oa 0 0) (saysV code) ∧ Chg [] w w' := by
  go_enter Try.func12, Try.ntmps12
  go_wp2_with fail
  refine post_abs ?_
  intro w3 hw3
  have hch : Chg [] w w3 := by rw [hw3]; exact (((Chg.refl _ _).alloc _).alloc _).alloc _
  have h0 : w3.heap[w.heap.size]? = some (.cells #[.int .u8 (code : Nat), .slice (some ⟨w.heap.size + 1 + 1, 0, none⟩) 1 1, .slice none 0 0] 34 (0, 0)) := by rw [hw3]; exact heap_old (heap_old (heap_new _ _))
  have h1 : w3.heap[w.heap.size + 1]? = some (.cells #[.string (bs [97, 98, 99, 100])] 9 (0, 0)) := by rw [hw3]; exact heap_old (heap_new' _ _ _ (by simp))
  have h2 : w3.heap[w.heap.size + 1 + 1]? = some (.cells #[.string (bs [0]), .int .u16 1, .int .u16 1, .int .u32 0, .slice (some ⟨w.heap.size + 1, 0, none⟩) 1 1] 84 (0, 0)) := by rw [hw3]; exact heap_new' _ _ _ (by simp)
  have hov := says_own (base := w.heap.size) h1 h2 hcd (by omega) (by omega)
  have m0 : w3.cell? ⟨w.heap.size, 0, none⟩ = some (.int .u8 (code : Nat)) := cell_of h0
  have m1 : w3.cell? ⟨w.heap.size, 1, none⟩ = some (.slice (some ⟨w.heap.size + 1 + 1, 0, none⟩) 1 1) := cell_of h0
  have m2 : w3.cell? ⟨w.heap.size, 2, none⟩ = some (.slice none 0 0) := cell_of h0
  clear hw3 h0 h1 h2
  exact bodyPost_ret (v := .agg #[.int .u8 (code : Nat), .slice (some ⟨w.heap.size + 1 + 1, 0, none⟩) 1 1, .slice none 0 0]) (by simp [results, Try.results12, go_sem, m0, m1, m2]) rfl ⟨_, _, rfl, hov, hch⟩

/-- How many places a number stands for. -/
def roomN (x : Int) : Nat := (x % 18446744073709551616).toNat % 40 + 1
theorem room_eq (x : Int) : wrap64 (1 + wrap64 ((IntKind.u64.wrap x).tmod 40)) = (roomN x : Int) := by
  have e : IntKind.u64.wrap x = x % 18446744073709551616 := by rw [IntKind.wrap_u64]
  have h0 : 0 ≤ x % 18446744073709551616 := Int.emod_nonneg _ (by omega)
  rw [e, Int.tmod_eq_emod_of_nonneg h0]
  unfold roomN
  have h1 : wrap64 (x % 18446744073709551616 % 40) = x % 18446744073709551616 % 40 := IntWalk.wrap64_in _ (by omega)
  rw [h1, IntWalk.wrap64_in _ (by omega)]
  omega
set_option maxRecDepth 100000 in
set_option maxHeartbeats 1000000 in
theorem made_any (x : Int) (k n : Nat) (w : World) (hk : k < 18446744073709551616) (hn : Hid (n = roomN x)) :
    Calls Try.prog 10 #[.int .i64 x, .int .u64 (k : Nat)] w fun e w' => ∃ cb F, e = .returned (.pointer (some ⟨cb, 0, none⟩)) ∧ CA F w' cb n k 5 ⟨0, []⟩ 0 ∧ (∀ y ∈ F, w.heap.size ≤ y) ∧ Chg [] w w' := by
  have hn1 : n ≤ 256 := by rw [hn.out]; unfold roomN; omega
  go_enter Try.func10, Try.ntmps10
  go_wp2_with fail
  rw [room_eq, ← hn.out]
  refine (new_any n k 5 w hn1 hk (by omega)).mono ?_
  rintro e w1 ⟨cb, F, rfl, hF, hlo, hc1⟩
  have HF := Lib.hid hF
  have HLO := Lib.hid hlo
  have HC1 := Lib.hid hc1
  clear hF hlo hc1
  go_wp2
  go_ret
  exact ⟨cb, F, rfl, HF.out, HLO.out, HC1.out⟩
theorem c3d_chg {w w' : World} {p q r : Addr} {a b c : Value} (h : w.cell? p = some a ∧ w.cell? q = some b ∧ w.cell? r = some c) (hc : Chg [] w w') : w'.cell? p = some a ∧ w'.cell? q = some b ∧ w'.cell? r = some c :=
  ⟨hc.cell h.1 (by simp), hc.cell h.2.1 (by simp), hc.cell h.2.2 (by simp)⟩
set_option maxRecDepth 100000 in
set_option maxHeartbeats 1000000 in
theorem finds_true (F : List Nat) (cb n k0 k1 : Nat) (c : Cst) (P : Nat) (x : Qn) (now : Int) (code : Nat) (left : Int) (e : En) (w : World) (h : CA F w cb n k0 k1 c P) (hP : P ≤ 900000) (hq1 : x.nm.size ≤ maxLen) (hq2 : x.ty < 65536) (hq3 : x.cl < 65536) (hcd : code < 256)
    (hg : Hid (gotC c x now = some e)) (hv : Hid (e.v = saysV code)) (hl : Hid (left = e.til - (advC c now).now)) :
    Calls Try.prog 13 #[.pointer (some ⟨cb, 0, none⟩), .agg (qV x), .int .i64 now, .int .u8 (code : Nat), .int .i64 left] w fun e w' => e = .returned (.bool true) ∧ Aft F w w' fun F' => CA F' w' cb n k0 k1 (findC c x now) P := by
  obtain ⟨nm, ty, cl⟩ := x
  unfold qV
  simp only at hq1 hq2 hq3 ⊢
  have HH := Lib.hid h
  clear h
  go_enter Try.func13, Try.ntmps13
  go_wp2_with fail
  refine calls_abs ?_
  intro w0 hw0
  have hc0 : Chg [] w w0 := by rw [hw0]; exact (Chg.refl _ _).alloc _
  have HC0 := Lib.hid hc0
  clear hw0 hc0
  refine (find_any F cb n k0 k1 c P w0 ⟨nm, ty, cl⟩ now (some e) code left true (HH.out.same HC0.out) hP hq1 hq2 hq3 (Lib.hid hg.out.symm) (Lib.hid (by show code = e.v.code; rw [hv.out]; rfl)) (Lib.hid hl.out) (Lib.hid rfl)).mono ?_
  rintro e9 w1 ⟨sa, sn, sc, oa, on, oc, rfl, hov, haf⟩
  have hrd : RdV w1 (code : Nat) (.slice sa sn sc) (.slice oa on oc) (saysV code) := by rw [← hv.out]; exact hov.rd
  have HRD := Lib.hid hrd
  have HAF := Lib.hid haf
  clear hov haf hrd
  go_wp2_with fail
  obtain ⟨vb, hvb⟩ : ∃ vb, vb = w1.heap.size := ⟨_, rfl⟩
  rw [← hvb]
  refine wp_abs ?_
  intro w2 hw2
  have hc2 : Chg [] w1 w2 := by rw [hw2]; exact (Chg.refl _ _).alloc _
  have h2 : w2.heap[vb]? = some (.cells #[.int .u8 (code : Nat), .slice sa sn sc, .slice oa on oc] 34 (0, 0)) := by rw [hw2, hvb]; exact heap_new _ _
  have S2 : Hid (w2.cell? ⟨vb, 0, none⟩ = some (.int .u8 (code : Nat)) ∧ w2.cell? ⟨vb, 1, none⟩ = some (.slice sa sn sc) ∧ w2.cell? ⟨vb, 2, none⟩ = some (.slice oa on oc)) := Lib.hid ⟨cell_of h2, cell_of h2, cell_of h2⟩
  have HC2 := Lib.hid hc2
  clear hw2 h2 hvb hc2
  go_region_held3 (fun W => W.cell? ⟨vb, 0, none⟩ = some (.int .u8 (code : Nat)) ∧ W.cell? ⟨vb, 1, none⟩ = some (.slice sa sn sc) ∧ W.cell? ⟨vb, 2, none⟩ = some (.slice oa on oc)) (first | (with_reducible exact S4.out) | (with_reducible exact S3.out) | exact S2.out) (first | (go_at_call 12; refine (says_any code w2.drew hcd).mono ?_; rintro e9 w3 ⟨sb, ob, rfl, hs3, hc3⟩; replace hc3 := hc3.undrew; have S3 := Lib.hid (c3d_chg S2.out hc3); have HS3 := Lib.hid hs3.rd; have HC3 := Lib.hid (HC2.out.trans hc3); clear hs3 hc3) | (go_at_call 19; refine (sameV_true _ _ _ _ _ _ (saysV code) w3 (HRD.out.same HC3.out) HS3.out).mono ?_; rintro e9 w4 ⟨rfl, hc4⟩; have S4 := Lib.hid (c3d_chg S3.out hc4); have HC4 := Lib.hid (HC3.out.trans hc4); clear hc4))
  have hfin : Aft F w w4 fun F' => CA F' w4 cb n k0 k1 (findC c ⟨nm, ty, cl⟩ now) P := by
    obtain ⟨F', h1, h2, h3⟩ := HAF.out
    refine ⟨F', h1.same HC4.out, fun y hy => ?_, ((HC0.out.mono (by simp)).trans h3).trans (HC4.out.mono (by simp))⟩
    rcases h2 y hy with e | e
    · exact .inl e
    · exact .inr (Nat.le_trans HC0.out.size e)
  have HFIN := Lib.hid hfin
  clear hfin S2 S3 S4
  go_wp2
  go_ret
  exact ⟨rfl, HFIN.out⟩

end Go.Proofs.Ytgdnfempcjlipaa
