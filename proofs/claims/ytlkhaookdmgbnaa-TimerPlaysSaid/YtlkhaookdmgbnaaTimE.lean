/- The library's heap: Fix; the queue's Push and Pop; Push, Remove. -/
import Derived.Test.YtlkhaookdmgbnaaTimD
namespace Go.Proofs.Ytlkhaookdmgbnaa
open Go.RowKit

/-- One pointer is appended to a row of one's own: in place, or in a new block. -/
theorem run_push_own {P : Program} (w : World) (t ty e : TypeId) (i : TypeInfo) (z : Value) (bytes : Nat) (ht : P.underlying t = some (.slice e)) (hi : P.info? e = some i) (hz : i.zero = some z)
    (hsize : i.size = 1) (hby : i.bytes = bytes) (hzs : z.cells.size = 1)
    (v : Value) (n : Nat) (xs : List Value) (hown : w.ownsRow 0 e 1 v n xs)
    (a : Addr) (c : Nat) (u : Value) (hnews : w.cell? (a.add 0) = some u) (h1 : u.oneCell' = true)
    (h63 : n + 1 ≤ maxLen) (hbytes : (n + 1) * bytes ≤ 140737488355328) :
    ∃ v' w' g cap, (Builtin.append_ #[t, t] ty #[v, .slice (some a) 1 c]).run P w = .ok v' w' ∧ w'.ownsRow 0 e 1 v' (n + 1) (xs ++ [u]) ∧ w.grownBy w' v.ownBlock ∧
      v' = .slice (some ⟨g, 0, none⟩) (n + 1) cap ∧ (v.ownBlock = some g ∨ w.heap.size ≤ g) := by
  have hn1 : ∀ j x, [u][j]? = some x → w.cell? (a.add j) = some x := by
    intro j x hj
    cases j with
    | zero => simp at hj; rw [← hj]; exact hnews
    | succ j => simp at hj
  have hn2 : ∀ x ∈ [u], x.oneCell' = true := by intro x hx; simp at hx; rw [hx]; exact h1
  obtain ⟨v', w', hr, h2, h3, h4⟩ := run_append_own (P := P) w 0 t ty e i z 1 bytes ht hi hz hsize hby hzs (by omega) v n xs hown a 1 c [u] (by simp) hn1 hn2 h63 hbytes (by omega)
  have hwhere : ∃ g cap, v' = .slice (some ⟨g, 0, none⟩) (n + 1) cap ∧ (v.ownBlock = some g ∨ w.heap.size ≤ g) := by
    rcases hown.2 with ⟨hv, hn⟩ | ⟨g, cap, cur, hv, _, hg, hnc, hcm, hcs, htake⟩
    · have hown2 : w.ownsRow w.heap.size e 1 v n xs := ⟨hown.1, .inl ⟨hv, hn⟩⟩
      obtain ⟨v2, w2, hr2, k2, k3, k4⟩ := run_append_own (P := P) w w.heap.size t ty e i z 1 bytes ht hi hz hsize hby hzs (by omega) v n xs hown2 a 1 c [u] (by simp) hn1 hn2 h63 hbytes (by omega)
      rw [hr] at hr2
      injection hr2 with e1 e2
      subst e1
      rcases k2.2 with ⟨_, hh⟩ | ⟨g, cap, cur, hv', hb, _⟩
      · omega
      · exact ⟨g, cap, hv', .inr hb⟩
    · subst hv
      by_cases hroom : n + 1 ≤ cap
      · have hr2 := run_append_room (P := P) w t ty e i ht hi g n cap cur hg a 1 c [u] (by simp [hsize]) hn1 hn2 hroom (by rw [hsize, hcs]; simp; omega)
        rw [hr] at hr2
        injection hr2 with e1 e2
        exact ⟨g, cap, e1, .inl rfl⟩
      · have holds : ∀ j u, xs[j]? = some u → w.cell? ((⟨g, 0, none⟩ : Addr).add j) = some u := hown.cells (g := g) rfl
        have hsm : n + 1 ≤ 9223372036854775807 := by simp only [maxLen] at h63; omega
        have hr2 := run_append_grow (P := P) w t ty e i z ht hi hz ⟨g, 0, none⟩ n cap xs (by rw [hsize]; exact hown.1) holds a 1 c [u] (by simp [hsize]) hn1 (by omega) (by omega) (by rw [hby]; exact growslice_fits (by omega) hbytes)
        rw [hr] at hr2
        injection hr2 with e1 e2
        exact ⟨_, _, e1, .inr (Nat.le_refl _)⟩
  obtain ⟨g, cap, e1, e2⟩ := hwhere
  exact ⟨v', w', g, cap, hr, h2, h3, e1, e2⟩

set_option maxRecDepth 100000 in
set_option maxHeartbeats 2000000 in
theorem fix_any (tb qb cap i n : Nat) (Q : List (It × Nat)) (w : World) (h : QH w tb qb cap Q) (hn : Hid (n = Q.length)) (hi : i < n) (hD : DownW (itsQ Q) n i) (hlen : n ≤ 1000000000) :
    Calls Try.prog 28 #[qI tb, .int .i64 i] w fun e w' => e = .returned (.tuple #[]) ∧ HeapPost w tb qb cap n Q w' := by
  have HD := Lib.hid hD
  have hcell := h.cell
  rw [← hn.out] at hcell
  have m1 := m_len _ _ _ hcell
  clear hD
  go_enter Try.func28, Try.ntmps28
  unfold qI
  go_wp2_with fail
  refine (qlen_any _ _ _ _).mono ?_
  rintro e w1 ⟨rfl, rfl⟩
  clear m1
  go_wp2_with fail
  refine (down_any tb qb cap n i Q _ h (by have := hn.out; omega) hi HD.out (by have := hn.out; omega)).mono ?_
  rintro e w2 (⟨rfl, hp⟩ | ⟨rfl, hq, hU, hc⟩)
  · have HP := Lib.hid hp
    clear hp
    go_wp2
    go_end0
    exact ⟨rfl, HP.out⟩
  · have HU := Lib.hid hU
    clear hU
    go_wp2_with fail
    refine (up_any tb qb cap n i Q _ hq (by have := hn.out; omega) hi HU.out (by have := hn.out; omega)).mono ?_
    rintro e w3 ⟨rfl, R, r1, r2, r3, r4, r5⟩
    have HP : Hid (HeapPost w tb qb cap n Q w3) := Lib.hid ⟨R, r1, r2, r3, r4, hc.trans r5⟩
    clear r1 r2 r3 r4 r5
    go_wp2
    go_end0
    exact ⟨rfl, HP.out⟩

end Go.Proofs.Ytlkhaookdmgbnaa
