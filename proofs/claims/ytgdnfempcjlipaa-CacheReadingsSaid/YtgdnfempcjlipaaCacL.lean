/- What filling a slot makes of the parts: plain facts. -/
import Derived.Test.YtgdnfempcjlipaaCacK
import Derived.Deep.RegionWith
namespace Go.Proofs.Ytgdnfempcjlipaa
open Go.RowKit Go.Maps

theorem kh_snoc (K : List (Nat × Nat)) (s r h : Nat) : kh (K ++ [(s, r)]) h = if h = r then kh K h ++ [s] else kh K h := by
  unfold kh
  rw [List.filter_append, List.map_append]
  by_cases e : h = r
  · subst e
    rw [if_pos rfl]
    simp
  · rw [if_neg e]
    have : ¬ r = h := fun h2 => e h2.symm
    simp [this]
/-- A slot comes behind its hash's row. -/
theorem rows_push {w w' w3 : World} {f : Nat → Option Value} {K : List (Nat × Nat)} {r s g cap B : Nat} {mb : Nat} (hr : RowsH w f K) (hB : B = w.heap.size) (hrow : R.OwnR 3 1 intV 0 w (rowAt f r) (kh K r))
    (hg : w'.heap.size ≥ w.heap.size) (hc : ∀ k, k < w.heap.size → (rowAt f r).ownBlock ≠ some k → w'.heap[k]? = w.heap[k]?)
    (ho : w'.ownsRow 0 3 1 (.slice (some ⟨g, 0, none⟩) ((kh K r).length + 1) cap) ((kh K r).length + 1) ((kh K r).flatMap intV ++ intV s)) (hw : (rowAt f r).ownBlock = some g ∨ w.heap.size ≤ g)
    (h3 : Chg [mb] w' w3) (hmb : ty? w' mb = none) : RowsH w3 (fun x => if x = r then some (.slice (some ⟨g, 0, none⟩) ((kh K r).length + 1) cap) else f x) (K ++ [(s, r)]) := by
  have hown' : R.OwnR 3 1 intV 0 w' (.slice (some ⟨g, 0, none⟩) ((kh K r).length + 1) cap) (kh K r ++ [s]) := R.OwnR.snoc ho
  have old : ∀ x v g', x ≠ r → f x = some v → v.ownBlock = some g' → g' ≠ g ∧ (rowAt f r).ownBlock ≠ some g' := by
    intro x v g' hx hv hg'
    have hlt := (hr.ty (y := g') ⟨x, v, hv, hg'⟩).2
    have h2 : (rowAt f r).ownBlock ≠ some g' := by
      intro e
      unfold rowAt at e
      cases hfr : f r with
      | none => rw [hfr] at e; cases e
      | some u =>
        rw [hfr] at e
        exact hx (hr.apart x r v u g' hv hfr hg' e)
    refine ⟨fun e => ?_, h2⟩
    subst e
    rcases hw with e | e
    · exact h2 e
    · omega
  refine ⟨fun x hx => ?_, fun x v hx => ?_, fun x x' v v' g' h1 h2 h4 h5 => ?_⟩
  · by_cases e : x = r
    · rw [if_pos e] at hx; cases hx
    · rw [if_neg e] at hx
      rw [kh_snoc, if_neg e]
      exact hr.no x hx
  · by_cases e : x = r
    · rw [if_pos e] at hx
      cases hx
      rw [kh_snoc, if_pos e, e]
      refine ⟨by simp, hown'.chg h3 fun g' hg' hs => ?_⟩
      simp at hs
      subst hs
      obtain ⟨_, _, c, hcc⟩ := hown'.blk g' hg'
      rw [ty_cells hcc] at hmb
      cases hmb
    · rw [if_neg e] at hx
      rw [kh_snoc, if_neg e]
      refine ⟨(hr.yes x v hx).1, ?_⟩
      have h6 : R.OwnR 3 1 intV 0 w' v (kh K x) := (hr.yes x v hx).2.keep fun g' hg' => hc g' (hr.ty (y := g') ⟨x, v, hx, hg'⟩).2 (old x v g' e hx hg').2
      refine h6.chg h3 fun g' hg' hs => ?_
      simp at hs
      subst hs
      obtain ⟨_, _, c, hcc⟩ := h6.blk g' hg'
      rw [ty_cells hcc] at hmb
      cases hmb
  · by_cases e : x = r
    · by_cases e' : x' = r
      · rw [e, e']
      · rw [if_pos e] at h1
        rw [if_neg e'] at h2
        cases h1
        cases h4
        exact absurd rfl (old x' v' _ e' h2 h5).1
    · by_cases e' : x' = r
      · rw [if_neg e] at h1
        rw [if_pos e'] at h2
        cases h2
        cases h5
        exact absurd rfl (old x v _ e h1 h4).1
      · rw [if_neg e] at h1
        rw [if_neg e'] at h2
        exact hr.apart x x' v v' g' h1 h2 h4 h5

theorem cutS_none {L : List Sl} {s : Nat} (h : s ∉ rowS L) : cutS L s = L := by
  unfold cutS
  apply List.filter_eq_self.2
  intro x hx
  simp
  intro e
  exact h (List.mem_map.2 ⟨x, hx, e⟩)
/-- What holds of the parts when a slot is filled, all but its entry, its place and its time. -/
structure Pre (k0 k1 n : Nat) (row : List Nat) (L : List Sl) (K : List (Nat × Nat)) (T : List Ti.It) (s : Nat) (q : Qn) (M : List En) : Prop where
  slt : s < n
  perm : K.Perm ((s, hashQ k0 k1 q) :: (cutS L s).map fun x => (x.s, hashQ k0 k1 x.e.q))
  prow : Lr.dropL row s = rowS (cutS L s)
  nd : (rowS (cutS L s)).Nodup
  ok : ∀ x ∈ cutS L s, x.e.q.nm.size ≤ 255 ∧ x.e.q.ty < 65536 ∧ x.e.q.cl < 65536
  sync : Sync (cutS L s) (Ti.delL T (s : Int))
  ens : ∀ v til, keepM n M ⟨q, v, til⟩ = ensS (cutS L s) ++ [⟨q, v, til⟩]
theorem Pre.con {k0 k1 n : Nat} {row : List Nat} {L : List Sl} {K : List (Nat × Nat)} {T : List Ti.It} {s : Nat} {q : Qn} {M : List En} (h : Pre k0 k1 n row L K T s q M) (v : Ver) (til : Int) (p : Nat) (hn : n ≤ 256) (hM : (M.map (·.q)).Nodup) (hl : M.length ≤ n)
    (hq : q.nm.size ≤ 255 ∧ q.ty < 65536 ∧ q.cl < 65536) :
    Lr.useL row s = rowS (cutS L s ++ [⟨s, ⟨q, v, til⟩⟩]) ∧ Con k0 k1 (rowS (cutS L s ++ [⟨s, ⟨q, v, til⟩⟩])) (cutS L s ++ [⟨s, ⟨q, v, til⟩⟩]) K ∧ Sync (cutS L s ++ [⟨s, ⟨q, v, til⟩⟩]) (Ti.putL T (s : Int) til p) ∧ ensS (cutS L s ++ [⟨s, ⟨q, v, til⟩⟩]) = keepM n M ⟨q, v, til⟩ := by
  have hrow : Lr.useL row s = rowS (cutS L s ++ [⟨s, ⟨q, v, til⟩⟩]) := by
    have e1 : Lr.useL row s = Lr.dropL row s ++ [s] := rfl
    rw [e1, h.prow]
    simp [rowS]
  have hens : ensS (cutS L s ++ [⟨s, ⟨q, v, til⟩⟩]) = keepM n M ⟨q, v, til⟩ := by
    rw [h.ens]
    simp [ensS]
  have hns : s ∉ rowS (cutS L s) := by
    intro hh
    obtain ⟨x, hx, e⟩ := List.mem_map.1 hh
    have := (List.mem_filter.1 hx).2
    simp at this
    exact this e
  refine ⟨hrow, ⟨rfl, ?_, ?_, ?_, ?_, ?_⟩, ?_, hens⟩
  · rw [List.map_append]
    exact h.perm.trans (List.perm_append_comm (l₁ := [(s, hashQ k0 k1 q)]) (l₂ := (cutS L s).map fun x : Sl => (x.s, hashQ k0 k1 x.e.q)))
  · unfold rowS
    rw [List.map_append, List.nodup_append]
    refine ⟨h.nd, by simp, ?_⟩
    intro a ha b hb e
    simp at hb
    subst hb
    subst e
    exact hns ha
  · rw [hens]
    exact keepM_nd hM
  · intro x hx
    rcases List.mem_append.1 hx with hx | hx
    · exact h.ok x hx
    · simp at hx; subst hx; exact hq
  · rw [← ensS_len, hens]
    exact Nat.le_trans (keepM_len hl) hn
  · unfold Sync Ti.putL
    rw [List.map_append, List.map_append]
    exact h.sync.append_right _
theorem pre_some {k0 k1 n : Nat} {L : List Sl} {K : List (Nat × Nat)} {T : List Ti.It} {x : Sl} {q : Qn} (hcon : Con k0 k1 (rowS L) L K) (hs : Sync L T) (hx : x ∈ L) (hq : x.e.q = q) (hn : 0 < n) (hsn : x.s < n) : Pre k0 k1 n (rowS L) L K T x.s q (ensS L) := by
  have hhas : hasM (ensS L) q = true := hasM_iff.2 ⟨x.e, List.mem_map.2 ⟨x, hx, rfl⟩, hq⟩
  have hsub := cutS_sub L x.s
  refine ⟨hsn, ?_, by rw [cutS_row]; rfl, hcon.nd.sublist (hsub.map _), fun y hy => hcon.ok y (hsub.subset hy), hs.cut x.s, fun v til => ?_⟩
  · refine hcon.perm.trans ?_
    rw [← hq]
    obtain ⟨l, m, rfl⟩ := List.append_of_mem hx
    have hc : cutS (l ++ x :: m) x.s = l ++ m := by
      have hnd := hcon.nd
      unfold rowS at hnd
      rw [List.map_append, List.map_cons, List.nodup_append, List.nodup_cons] at hnd
      unfold cutS
      rw [List.filter_append, List.filter_cons, if_neg (by simp)]
      congr 1
      · apply List.filter_eq_self.2
        intro y hy
        simp
        intro e
        exact hnd.2.2 y.s (List.mem_map.2 ⟨y, hy, rfl⟩) x.s (by simp) e
      · apply List.filter_eq_self.2
        intro y hy
        simp
        intro e
        exact hnd.2.1.1 (List.mem_map.2 ⟨y, hy, e⟩)
    rw [hc, List.map_append, List.map_cons, List.map_append]
    exact List.perm_middle
  · unfold keepM
    rw [if_neg (by omega), if_pos hhas, cutS_ens hcon.nd hcon.qs hx, hq]
theorem pre_none {k0 k1 n : Nat} {L : List Sl} {K : List (Nat × Nat)} {T : List Ti.It} {s : Nat} {q : Qn} {M : List En} (hcon : Con k0 k1 (rowS L) L K) (hs : Sync L T) (hn : 0 < n) (hsn : s < n) (hsr : s ∉ rowS L) (hT : ∀ x ∈ T, x.id ≠ (s : Int)) (hM : hasM M q = false) (hL : ensS L = if M.length = n then M.tail else M) : Pre k0 k1 n (rowS L) L (K ++ [(s, hashQ k0 k1 q)]) T s q M := by
  have hc := cutS_none hsr
  refine ⟨hsn, ?_, ?_, by rw [hc]; exact hcon.nd, by rw [hc]; exact hcon.ok, by rw [hc, Ti.delL_absent hT]; exact hs, fun v til => ?_⟩
  · rw [hc]
    exact (hcon.perm.append_right _).trans (List.perm_append_comm (l₁ := L.map fun x : Sl => (x.s, hashQ k0 k1 x.e.q)) (l₂ := [(s, hashQ k0 k1 q)]))
  · rw [hc]
    unfold Lr.dropL
    apply List.filter_eq_self.2
    intro y hy
    simp
    rintro rfl
    exact hsr hy
  · unfold keepM
    rw [if_neg (by omega), hc, hL]
    simp [hM]
theorem sync_ids {L : List Sl} {T : List Ti.It} (h : Sync L T) {s : Nat} (hs : s ∉ rowS L) : ∀ x ∈ T, x.id ≠ (s : Int) := by
  intro x hx e
  have := h.mem_iff.1 (List.mem_map.2 ⟨x, hx, rfl⟩)
  obtain ⟨y, hy, e2⟩ := List.mem_map.1 this
  injection e2 with e3 _
  exact hs (List.mem_map.2 ⟨y, hy, by show y.s = s; omega⟩)

end Go.Proofs.Ytgdnfempcjlipaa
