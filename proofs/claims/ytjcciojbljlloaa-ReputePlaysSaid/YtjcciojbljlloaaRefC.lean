/- The document's book: Copy (RUNS AWAY, not built). -/
import Derived.Test.YtjcciojbljlloaaRefH
namespace Go.Proofs.Ytjcciojbljlloaa
open Go.RowKit

theorem Try.elemOne' : (Try.prog.info? 36).map (fun i => (i.zero, i.size, i.bytes)) = some (some (.agg #[.int .i64 0, .int .i64 0, .int .i64 0, .int .i64 0, .bool false, .bool false, .int .i64 0]), 7, 48) := by kernel_rfl

set_option maxRecDepth 100000 in
set_option maxHeartbeats 40000000 in
theorem rcopy_any (b r L R : Nat) (us : List Up) (w : World) (h : RBook w b r L R us) (hpos : 0 < us.length) :
    Calls Try.prog 33 #[.pointer (some ⟨b, 0, none⟩)] w fun e w' => ∃ b' r', e = .returned (.pointer (some ⟨b', 0, none⟩)) ∧ w.heap.size ≤ b' ∧ w.heap.size ≤ r' ∧ RBook w' b' r' L R us ∧ Chg [] w w' := by
  have hlen := h.len
  have k0 := h.c0
  have k1 := h.c1
  have hlb := h.lt
  obtain ⟨cap, hcap, k2⟩ := h.c2
  obtain ⟨i0, hi0, hz0, hz1, hz2⟩ := info_parts Try.elemOne'
  have hnew : (w.alloc (.cells #[] 36)).ownsRow w.heap.size 36 7 (.slice (some ⟨w.heap.size, 0, none⟩) 0 0) 0 [] :=
    ⟨rfl, .inr ⟨w.heap.size, 0, #[], rfl, Nat.le_refl _, heap_new _ _, Nat.le_refl _, Nat.zero_le _, rfl, rfl⟩⟩
  have HNEW := Lib.hid hnew
  have hsrc : ∀ p, some (⟨r, 0, none⟩ : Addr) = some p → ∀ j u, (upsV us)[j]? = some u → (w.alloc (.cells #[] 36)).cell? (p.add j) = some u := by
    intro p hp j u hj
    cases hp
    obtain ⟨rest, hr⟩ := h.row
    rw [add_at, Nat.zero_add, cell_of (heap_old hr), List.getElem?_toArray]
    have hjl : j < (upsV us).length := by
      rcases Nat.lt_or_ge j (upsV us).length with hh | hh
      · exact hh
      · rw [List.getElem?_eq_none hh] at hj; cases hj
    rw [List.getElem?_append_left hjl]; exact hj
  have HSRC := Lib.hid hsrc
  have HONE := Lib.hid (upsV_one us)
  have HUL := Lib.hid (upsV_len us)
  have HH := Lib.hid h
  clear hnew hsrc h
  go_enter Try.func33, Try.ntmps33
  go_wp2
  go_region_law (refine step_append_src rfl (.tmp 11) (.tmp 15) 39 rfl w.heap.size 36 i0 _ 7 48 Try.underlying39 hi0 hz0 hz1 hz2 rfl (by decide) (.slice (some ⟨w.heap.size, 0, none⟩) 0 0) 0 [] rfl HNEW.out (some ⟨r, 0, none⟩) us.length cap (upsV us) rfl (by simp) (by simp) HUL.out HSRC.out HONE.out (by unfold maxLen; omega) (by omega) (by simp) ?_; intro v1 w1 hown1 hg1 _; rw [Nat.zero_add, List.nil_append] at hown1; obtain ⟨g, c1, hv1, hgb, hgc, hups⟩ := ups_of_own hown1 hpos; subst hv1; have hc1 : Chg [] w w1 := (((Chg.refl [] w).alloc (.cells #[] 36)).drew).grown hg1 (fun k hk => (by injection hk with hk; subst hk; exact .inr (Nat.le_refl _))); have k0' := hc1.cell k0 (by simp); have k1' := hc1.cell k1 (by simp))
  all_goals
    go_wp2
    go_ret
    refine ⟨_, g, rfl, hc1.size, hgb, ?_, hc1.alloc _⟩
    have hgl := hups.lt
    exact ⟨HH.out.hL, HH.out.hR, HH.out.len, HH.out.ok, by omega, ⟨c1, hgc, heap_new _ _⟩, hups.chg ((Chg.refl [] _).alloc _) (by simp)⟩

end Go.Proofs.Ytjcciojbljlloaa
