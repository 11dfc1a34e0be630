/- The things that came in; the walks of put and last. -/
import Derived.Test.YtlkhaookdmgbnaaAwake14
import Derived.Test.YtlkhaookdmgbnaaTimPl3
import Derived.Test.YtlkhaookdmgbnaaRecs
namespace Go.Proofs.Ytlkhaookdmgbnaa
open Go.ChangeShapes Go.WideShapes Go.Deep Go.RowKit

/-- A slice of things, as a list of pairs. -/
def IsSets (w : World) (a : Option Addr) (l : List (Int × Int)) : Prop :=
  l.length ≤ maxLen ∧ ∀ i (h : i < l.length), ∃ b o, a = some ⟨b, o, none⟩ ∧ b < w.heap.size ∧ w.cell? ⟨b, o + i * 2, none⟩ = some (.int .i64 l[i].1) ∧
    w.cell? ⟨b, o + i * 2 + 1, none⟩ = some (.int .i64 l[i].2) ∧ InI l[i].1 ∧ InI l[i].2
theorem IsSets.all {w : World} {a : Option Addr} {l : List (Int × Int)} (h : IsSets w a l) : ∀ x ∈ l, InI x.1 ∧ InI x.2 := by
  intro x hx
  obtain ⟨i, hi, rfl⟩ := List.getElem_of_mem hx
  obtain ⟨b, o, _, _, _, _, h1, h2⟩ := h.2 i hi
  exact ⟨h1, h2⟩
theorem IsSets.same {w w' : World} {a : Option Addr} {l : List (Int × Int)} (h : IsSets w a l) (hc : Chg [] w w') : IsSets w' a l := by
  refine ⟨h.1, fun i hi => ?_⟩
  obtain ⟨b, o, h1, h2, h3, h4, h5⟩ := h.2 i hi
  exact ⟨b, o, h1, Nat.lt_of_lt_of_le h2 hc.size, hc.cell h3 (by simp), hc.cell h4 (by simp), h5⟩
theorem IsSets.chg {w w' : World} {B : Nat} {S : List Nat} {a : Option Addr} {l : List (Int × Int)} (h : IsSets w a l) {w0 : World} (h0 : IsSets w0 a l) (hB : B = w0.heap.size) (hc : Chg S w w') (hS : ∀ x ∈ S, B ≤ x) : IsSets w' a l := by
  refine ⟨h.1, fun i hi => ?_⟩
  obtain ⟨b, o, h1, h2, h3, h4, h5⟩ := h.2 i hi
  obtain ⟨b', o', k1, k2, _⟩ := h0.2 i hi
  rw [h1] at k1
  injection k1 with k1
  injection k1 with k1 _
  have hb : b ∉ S := fun hx => by have := hS b hx; omega
  exact ⟨b, o, h1, Nat.lt_of_lt_of_le h2 hc.size, hc.cell h3 hb, hc.cell h4 hb, h5⟩
theorem int_i64 {n : Int} (h : (Lit.int .i64 n).wf = true) : InI n := by
  simp [Lit.wf, IntKind.min, IntKind.max, IntKind.signed, IntKind.bits] at h
  unfold InI
  omega
theorem open_sets {H : Type} {enc : TypeId × Value → H} {w : World} {r : Reach} {b0 base : Nat} {spare : Nat → Bool} {held : Bool} {v : Value} {d : DataW H} {p : List MemPlace}
    (hv : Value.okWide Try.prog w r b0 22 v) (h : DataW.Trod enc Try.prog w base spare held 22 v d p) :
    ∃ a cap l, v = .slice a l.length cap ∧ IsSets w a l := by
  obtain ⟨a, len, cap, rfl, hm, _, hx⟩ := recs_open Try.underlying22 Try.underlying29 (by
    intro j f hj
    match j with
    | 0 => simp at hj; subst hj; exact ⟨rfl, by kernel_rfl⟩
    | 1 => simp at hj; subst hj; exact ⟨rfl, by kernel_rfl⟩
    | j + 2 => simp at hj) (by kernel_rfl) (by decide) hv h
  have key : ∀ i, i < len → ∃ b o n m, a = some ⟨b, o, none⟩ ∧ b < w.heap.size ∧ w.cell? ⟨b, o + i * 2, none⟩ = some (.int .i64 n) ∧ w.cell? ⟨b, o + i * 2 + 1, none⟩ = some (.int .i64 m) ∧ InI n ∧ InI m := by
    intro i hi
    obtain ⟨b, o, ha, hb, hf⟩ := hx i hi
    obtain ⟨u0, n0, y0, hc0, ht0⟩ := hf 0 _ rfl
    obtain ⟨u1, n1, y1, hc1, ht1⟩ := hf 1 _ rfl
    obtain ⟨n, e0, _, wn⟩ := DataW.trod_int Try.underlying3 ht0
    obtain ⟨m, e1, _, wm⟩ := DataW.trod_int Try.underlying2 ht1
    simp at e0 e1
    subst e0; subst e1
    exact ⟨b, o, n, m, ha, hb, hc0, by rw [Nat.add_assoc]; exact hc1, int_i64 wn, int_i64 wm⟩
  refine ⟨a, cap, (List.range len).map fun i => (numAt w (blkOf a) (offOf a + i * 2), numAt w (blkOf a) (offOf a + i * 2 + 1)), by simp, by simpa using hm, ?_⟩
  intro i hi
  simp at hi
  obtain ⟨b, o, n, m, ha, hb, hc0, hc1, hn, hmm⟩ := key i hi
  have hB : blkOf a = b := by rw [ha]; rfl
  have hO : offOf a = o := by rw [ha]; rfl
  simp only [List.getElem_map, List.getElem_range, hB, hO, numAt_of hc0, numAt_of hc1]
  exact ⟨b, o, ha, hb, hc0, hc1, hn, hmm⟩

def PutR (w : World) (l : List (Int × Int)) (t : Nat) (v : Value) (wr : World) : Prop := ∃ k, k ≤ l.length ∧ v = .int .i64 k ∧ TB w wr t (putsT l k) k

set_option maxRecDepth 100000 in
set_option maxHeartbeats 4000000 in
theorem put_sets (a : Option Addr) (cap : Nat) (l : List (Int × Int)) (w : World) (h : IsSets w a l) (hl : l.length ≤ 1000) :
    Calls Try.prog 11 #[.slice a l.length cap] w fun e w' => ∃ t, e = .returned (.pointer (some ⟨t, 0, none⟩)) ∧ TB w w' t (putsT l l.length) l.length := by
  have HS := Lib.hid h
  clear h
  go_enter Try.func11, Try.ntmps11
  go_wp2_with fail
  refine (new_t w w (Chg.refl _ _)).mono ?_
  rintro e w1 ⟨t, rfl, h1⟩
  have H1 := Lib.hid h1
  clear h1
  go_wp2_with fail
  go_loopw [4] (PutR w l t) (fun v _ => l.length - (intOf v).toNat)
  case atStart => exact ⟨0, by omega, rfl, H1.out⟩
  case round =>
    obtain ⟨k, hk, rfl, hT⟩ := hrel
    have HT := Lib.hid hT
    clear H1 hT
    by_cases hlt : k < l.length
    · obtain ⟨b, o, rfl, hb, c0, c1, i0, i1⟩ := HS.out.2 k hlt
      have hC := HT.out.chg
      have c0' := hC.cell c0 (by simp)
      have c1' := hC.cell c1 (by simp)
      obtain ⟨id, hid⟩ : ∃ id, id = l[k].1 := ⟨_, rfl⟩
      obtain ⟨due, hdue⟩ : ∃ due, due = l[k].2 := ⟨_, rfl⟩
      rw [← hid] at c0' i0
      rw [← hdue] at c1' i1
      have HE : Hid (l.getD k (0, 0) = (id, due)) := Lib.hid (by simp [hlt, hid, hdue])
      have b1 : (k : Int) < (l.length : Int) := by omega
      clear hC c0 c1 hid hdue
      go_wp2_with fail
      go_region_with (go_at_call 17; go_must (refine (put_t w t (putsT l k) k id due _ (HT.out.same ((Chg.refl [] _).drew)) i0 i1 (by omega)).mono ?_; rintro e w2 ⟨rfl, h2⟩))
      all_goals
        have H2 : Hid (TB w w2 t (putsT l (k + 1)) (k + 1)) := Lib.hid (by
          show TB w w2 t (putL (putsT l k) (l.getD k (0, 0)).1 (l.getD k (0, 0)).2 (k + 1)) (k + 1)
          rw [HE.out]
          exact h2)
        clear h2
        go_wp2
        go_roundw
        case rel => exact ⟨k + 1, by omega, by go_num, H2.out⟩
        case measure => simp [intOf]; omega
    · obtain rfl : k = l.length := by omega
      go_wp2
      go_ret
      exact ⟨t, rfl, HT.out⟩

end Go.Proofs.Ytlkhaookdmgbnaa
