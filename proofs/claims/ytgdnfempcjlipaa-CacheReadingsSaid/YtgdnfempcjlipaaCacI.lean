/- The walks of free and advance. -/
import Derived.Test.YtgdnfempcjlipaaCacH
namespace Go.Proofs.Ytgdnfempcjlipaa
open Go.RowKit Go.Maps

/-- The timers tell for each entry how long it lasts. -/
def Sync (L : List Sl) (T : List Ti.It) : Prop := (T.map fun x => (x.id, x.due)).Perm (L.map fun x => ((x.s : Int), x.e.til))
theorem Sync.cut {L : List Sl} {T : List Ti.It} (h : Sync L T) (s : Nat) : Sync (cutS L s) (Ti.delL T (s : Int)) := by
  unfold Sync cutS Ti.delL
  have e1 : (T.filter fun x => decide (x.id ≠ (s : Int))).map (fun x => (x.id, x.due)) = (T.map fun x => (x.id, x.due)).filter fun y => decide (y.1 ≠ (s : Int)) := by
    rw [List.filter_map]; rfl
  have e2 : (L.filter fun x => decide (x.s ≠ s)).map (fun x => ((x.s : Int), x.e.til)) = (L.map fun x => ((x.s : Int), x.e.til)).filter fun y => decide (y.1 ≠ (s : Int)) := by
    rw [List.filter_map]
    congr 1
    apply List.filter_congr
    intro x _
    simp only [Function.comp]
    rw [Bool.eq_iff_iff, decide_eq_true_eq, decide_eq_true_eq]
    omega
  rw [e1, e2]
  exact h.filter _
def restS (L : List Sl) (now : Int) : List Sl := L.filter fun x => decide (now < x.e.til)
theorem Sync.rest {L : List Sl} {T : List Ti.It} (h : Sync L T) (now : Int) : Sync (restS L now) (Ti.restL T now) := by
  unfold Sync restS Ti.restL
  have e1 : (T.filter fun x => decide (now < x.due)).map (fun x => (x.id, x.due)) = (T.map fun x => (x.id, x.due)).filter fun y => decide (now < y.2) := by
    rw [List.filter_map]; rfl
  have e2 : (L.filter fun x => decide (now < x.e.til)).map (fun x => ((x.s : Int), x.e.til)) = (L.map fun x => ((x.s : Int), x.e.til)).filter fun y => decide (now < y.2) := by
    rw [List.filter_map]; rfl
  rw [e1, e2]
  exact h.filter _
theorem restS_ens (L : List Sl) (now : Int) : ensS (restS L now) = expM (ensS L) now := by
  unfold ensS restS expM
  rw [List.filter_map]
  rfl
theorem dueL_mem {T : List Ti.It} {now : Int} {i : Int} : i ∈ Ti.dueL T now ↔ ∃ x ∈ T, x.id = i ∧ x.due ≤ now := by
  unfold Ti.dueL
  rw [List.mem_map]
  constructor
  · rintro ⟨x, hx, rfl⟩
    obtain ⟨h1, h2⟩ := List.mem_filter.1 hx
    exact ⟨x, (Ti.sortL_perm T).mem_iff.1 h1, rfl, by simpa using h2⟩
  · rintro ⟨x, hx, rfl, h⟩
    exact ⟨x, List.mem_filter.2 ⟨(Ti.sortL_perm T).mem_iff.2 hx, by simpa using h⟩, rfl⟩
theorem dueL_nodup {T : List Ti.It} {now : Int} (h : (T.map Ti.It.id).Nodup) : (Ti.dueL T now).Nodup := by
  unfold Ti.dueL
  have h1 : ((Ti.sortL T).map Ti.It.id).Nodup := (((Ti.sortL_perm T).map Ti.It.id).nodup_iff).2 h
  exact h1.sublist (List.filter_sublist.map _)
theorem Sync.due {L : List Sl} {T : List Ti.It} (h : Sync L T) {now : Int} {i : Int} : i ∈ Ti.dueL T now ↔ ∃ x ∈ L, (x.s : Int) = i ∧ x.e.til ≤ now := by
  rw [dueL_mem]
  constructor
  · rintro ⟨x, hx, rfl, hd⟩
    have := h.mem_iff.1 (List.mem_map.2 ⟨x, hx, rfl⟩)
    obtain ⟨y, hy, e⟩ := List.mem_map.1 this
    injection e with e1 e2
    exact ⟨y, hy, e1, by omega⟩
  · rintro ⟨y, hy, rfl, hd⟩
    have := h.mem_iff.2 (List.mem_map.2 ⟨y, hy, rfl⟩)
    obtain ⟨x, hx, e⟩ := List.mem_map.1 this
    injection e with e1 e2
    exact ⟨x, hx, e1, by omega⟩
theorem rest_absent {T : List Ti.It} {now : Int} (h : (T.map Ti.It.id).Nodup) {i : Int} (hi : i ∈ Ti.dueL T now) : ∀ x ∈ Ti.restL T now, x.id ≠ i := by
  intro x hx e
  obtain ⟨h1, h2⟩ := List.mem_filter.1 hx
  simp at h2
  obtain ⟨y, hy, e2, hd⟩ := dueL_mem.1 hi
  have := inj_of_nodup h h1 hy (e.trans e2.symm)
  subst this
  omega

theorem Con.cut {k0 k1 : Nat} {row : List Nat} {L : List Sl} {K : List (Nat × Nat)} (h : Con k0 k1 row L K) (s : Nat) : Con k0 k1 (Lr.dropL row s) (cutS L s) (cutK K s) := by
  have hsub := cutS_sub L s
  refine ⟨by rw [h.row, cutS_row]; rfl, ?_, h.nd.sublist (hsub.map _), ?_, fun x hx => h.ok x (hsub.subset hx), Nat.le_trans hsub.length_le h.len⟩
  · have e1 : (cutS L s).map (fun x => (x.s, hashQ k0 k1 x.e.q)) = (L.map fun x => (x.s, hashQ k0 k1 x.e.q)).filter fun y => !decide (y.1 = s) := by
      unfold cutS
      rw [List.filter_map]
      congr 1
      apply List.filter_congr
      intro x _
      simp
    rw [e1]
    exact h.perm.filter _
  · unfold ensS
    rw [List.map_map]
    have := h.qs
    unfold ensS at this
    rw [List.map_map] at this
    exact this.sublist (hsub.map _)

/-- A cache at rest: its entries by their slots. -/
def CF (F : List Nat) (w : World) (cb n k0 k1 : Nat) (now : Int) (L : List Sl) (p m : Nat) : Prop :=
  ∃ K T, CS F w cb n k0 k1 now (rowS L) L K T p m ∧ Con k0 k1 (rowS L) L K ∧ Sync L T
theorem CF.low {F : List Nat} {w : World} {cb n k0 k1 : Nat} {now : Int} {L : List Sl} {p m : Nat} (h : CF F w cb n k0 k1 now L p m) : ∀ y ∈ F, y < w.heap.size := by
  obtain ⟨K, T, h, _⟩ := h
  exact h.low
theorem CF.other {F S : List Nat} {w w' : World} {cb n k0 k1 : Nat} {now : Int} {L : List Sl} {p m : Nat} (h : CF F w cb n k0 k1 now L p m) (hc : Chg S w w') (hS : ∀ y ∈ S, y ∉ F) (hN : NoSet S w) : CF F w' cb n k0 k1 now L p m := by
  obtain ⟨K, T, h, h2, h3⟩ := h
  exact ⟨K, T, h.other hc hS hN, h2, h3⟩
theorem CF.same {F : List Nat} {w w' : World} {cb n k0 k1 : Nat} {now : Int} {L : List Sl} {p m : Nat} (h : CF F w cb n k0 k1 now L p m) (hc : Chg [] w w') : CF F w' cb n k0 k1 now L p m := h.other hc (by simp) (noSet_nil w)
theorem CF.lru {F : List Nat} {w : World} {cb n k0 k1 : Nat} {now : Int} {L : List Sl} {p m : Nat} (h : CF F w cb n k0 k1 now L p m) : n ≤ 256 ∧ (∀ x ∈ rowS L, x < n) ∧ (rowS L).Nodup ∧ L.length ≤ n := by
  obtain ⟨K, T, ⟨eb, mb, lb, tb, cp, tl, FT, f, es, hC, hF⟩, h2, h3⟩ := h
  refine ⟨hC.lru.1, hC.lru.2.1, hC.lru.nodup, ?_⟩
  have := Lr.nodup_le n (rowS L) hC.lru.nodup hC.lru.2.1
  simpa [rowS] using this
theorem aft_refl (F : List Nat) (w : World) (P : List Nat → Prop) (h : P F) : Aft F w w P := ⟨F, h, fun y hy => .inl hy, Chg.refl _ _⟩
theorem aft_chg {F : List Nat} {w w' : World} {P : List Nat → Prop} (h : P F) (hc : Chg [] w w') : Aft F w w' P := ⟨F, h, fun y hy => .inl hy, hc.mono (by simp)⟩
/-- Changes that do not count, ahead. -/
theorem Aft.after {F : List Nat} {w w1 w2 : World} {P : List Nat → Prop} (h : Aft F w1 w2 P) (hc : Chg [] w w1) : Aft F w w2 P := by
  obtain ⟨F', h1, h2, h3⟩ := h
  refine ⟨F', h1, fun y hy => ?_, (hc.mono (by simp)).trans h3⟩
  rcases h2 y hy with e | e
  · exact .inl e
  · exact .inr (Nat.le_trans hc.size e)

theorem range_in : ∀ (n : Nat) (l : List Nat), (∀ i, i < n → i ∈ l) → n ≤ l.length
  | 0, _, _ => Nat.zero_le _
  | n + 1, l, h => by
    have h1 := range_in n (l.filter fun x => decide (x ≠ n)) fun i hi => List.mem_filter.2 ⟨h i (by omega), by simp; omega⟩
    have hm := h n (by omega)
    have h2 : (l.filter fun x => decide (x ≠ n)).length < l.length := by
      clear h h1
      induction l with
      | nil => cases hm
      | cons x l ih =>
        rw [List.filter_cons]
        rcases List.mem_cons.1 hm with e | e
        · subst e
          rw [if_neg (by simp)]
          have := List.length_filter_le (fun y : Nat => decide (y ≠ n)) l
          simp only [List.length_cons]
          omega
        · have := ih e
          split
          · simp only [List.length_cons]; omega
          · simp only [List.length_cons]; omega
    omega
/-- What is left when room is made. -/
def fullL (n : Nat) (L : List Sl) : List Sl := if L.length = n then L.tail else L
theorem fullL_ens (n : Nat) (L : List Sl) : ensS (fullL n L) = if (ensS L).length = n then (ensS L).tail else ensS L := by
  unfold fullL ensS
  rw [List.length_map]
  split
  · rw [List.map_tail]
  · rfl
theorem cut_head {x : Sl} {L : List Sl} (h : (rowS (x :: L)).Nodup) : cutS (x :: L) x.s = L := by
  unfold cutS
  rw [List.filter_cons, if_neg (by simp)]
  apply List.filter_eq_self.2
  intro y hy
  simp
  intro e
  unfold rowS at h
  rw [List.map_cons, List.nodup_cons] at h
  exact h.1 (List.mem_map.2 ⟨y, hy, e⟩)
theorem CF.of_cut {F : List Nat} {w : World} {cb n k0 k1 : Nat} {now : Int} {L : List Sl} {K : List (Nat × Nat)} {T : List Ti.It} {p m s : Nat} (h : CS F w cb n k0 k1 now (Lr.dropL (rowS L) s) (cutS L s) (cutK K s) (Ti.delL T s) p m) (hcon : Con k0 k1 (rowS L) L K) (hs : Sync L T) : CF F w cb n k0 k1 now (cutS L s) p m := by
  have e : Lr.dropL (rowS L) s = rowS (cutS L s) := by rw [cutS_row]; rfl
  have h2 := hcon.cut s
  rw [e] at h h2
  exact ⟨_, _, h, h2, hs.cut s⟩
def FreeR (row : List Nat) (n : Nat) (i : Value) : Prop := ∃ j : Nat, j ≤ n ∧ i = .int .i64 (j : Nat) ∧ ∀ t, t < j → t ∈ row
section
variable (F : List Nat) (cb n k0 k1 : Nat) (now : Int) (L : List Sl) (p m : Nat) (w : World)
set_option maxRecDepth 100000 in
set_option maxHeartbeats 8000000 in
theorem free_any (h : CF F w cb n k0 k1 now L p m) (hn : 0 < n) (hp : p ≤ 1000000) (hm : m ≤ 1000000) :
    Calls Try.prog 30 #[.pointer (some ⟨cb, 0, none⟩)] w fun e w' => ∃ s : Nat, e = .returned (.int .i64 (s : Nat)) ∧ s < n ∧ s ∉ rowS (fullL n L) ∧ Aft F w w' fun F' => CF F' w' cb n k0 k1 now (fullL n L) p m := by
  obtain ⟨hn256, hrn, hnd, hLn⟩ := h.lru
  obtain ⟨L1, hL1⟩ : ∃ L1, L1 = fullL n L := ⟨_, rfl⟩
  rw [← hL1]
  have HL1 := Lib.hid hL1
  clear hL1
  obtain ⟨K, T, hS, hcon, hsy⟩ := h
  obtain ⟨eb, mb, lb, tb, cp, tl, FT, f, es, hC, hF⟩ := id hS
  have c0 : w.cell? ⟨cb, 0, none⟩ = some (.int .i64 (n : Nat)) := cell_of hC.head
  have c6 : w.cell? ⟨cb, 6, none⟩ = some (.pointer (some ⟨lb, 0, none⟩)) := cell_of hC.head
  have S0 : Hid (w.cell? ⟨cb, 0, none⟩ = some (.int .i64 (n : Nat)) ∧ w.cell? ⟨cb, 6, none⟩ = some (.pointer (some ⟨lb, 0, none⟩))) := Lib.hid ⟨c0, c6⟩
  obtain ⟨ln, hln⟩ : ∃ ln, ln = L.length := ⟨_, rfl⟩
  have hrl : (rowS L).length = ln := by rw [hln]; simp [rowS]
  have HC := Lib.hid hC
  have HS := Lib.hid hS
  have HLN := Lib.hid hln
  have HRL := Lib.hid hrl
  have HCON := Lib.hid hcon
  have HSY := Lib.hid hsy
  have HND := Lib.hid hnd
  have HRN := Lib.hid hrn
  have hlnn : ln ≤ n := by omega
  clear hC hS hln hrl hcon hsy hnd hrn hF hLn c0 c6
  go_enter Try.func30, Try.ntmps30
  go_wp2_with fail
  go_region_held3 (fun W => W.cell? ⟨cb, 0, none⟩ = some (.int .i64 (n : Nat)) ∧ W.cell? ⟨cb, 6, none⟩ = some (.pointer (some ⟨lb, 0, none⟩))) (first | (with_reducible exact S1.out) | exact S0.out) (first | (go_at_call 35; refine (Lr.len_any lb n (rowS L) _ ?_).mono ?_; exact HC.out.lru.chg (Chg.refl [] w).drew (by simp); rintro e9 w1 ⟨rfl, hc1⟩; replace hc1 := hc1.undrew; rw [HRL.out]; have S1 := Lib.hid (And.intro (hc1.cell S0.out.1 (by simp)) (hc1.cell S0.out.2 (by simp)))))
  by_cases hfull : ln = n
  · have t1 : ((ln : Int) == (n : Int)) = true := by simp; omega
    rw [t1]
    obtain ⟨x, L2, hL⟩ : ∃ x L2, L = x :: L2 := by
      cases L with
      | nil => have := HLN.out; simp at this; omega
      | cons x L2 => exact ⟨x, L2, rfl⟩
    have hf : L1 = L2 := by rw [HL1.out]; unfold fullL; rw [if_pos (HLN.out.symm.trans hfull), hL]; rfl
    subst hf
    have hxL : x ∈ L := by rw [hL]; simp
    have hold : Lr.firstOf (rowS L) = x.s := by rw [hL]; rfl
    have hemp : (!(rowS L).isEmpty) = true := by rw [hL]; rfl
    have hcut : cutS L x.s = L1 := by rw [hL]; exact cut_head (by rw [← hL]; exact HND.out)
    have hlt : (rowS L1).length < n := by
      have := HLN.out
      rw [hL] at this
      simp [rowS] at this ⊢
      omega
    have hc1' := hc1
    obtain ⟨o1, o2, o3⟩ := HCON.out.ok x hxL
    have hrem := remove_any F cb n k0 k1 now (rowS L) L K T p m w1 x (HS.out.same hc1) hxL (by omega) o2 o3 (HCON.out.mem hxL) HCON.out.keys (by have := HCON.out.klen; omega) hp hm
    have holdc := Lr.oldest_any lb n x.s true (rowS L) w1 (HC.out.lru.chg hc1 (by simp)) hold.symm hemp.symm
    have HREM := Lib.hid hrem
    have HOLD := Lib.hid holdc
    have HCUT := Lib.hid hcut
    have HLT := Lib.hid hlt
    have HCH1 := Lib.hid hc1
    have c6 := S1.out.2
    clear hL hxL hold hemp hcut hlt hrem holdc o1 o2 o3 hc1 hc1' S0 S1 hfull t1
    go_wp2_with (first | (go_at_call 49; refine HOLD.out.mono ?_; rintro e9 w2 ⟨rfl, rfl⟩) | fail)
    refine HREM.out.mono ?_
    rintro e9 WX ⟨rfl, haft⟩
    have haft2 : Aft F w WX (fun F' => CF F' WX cb n k0 k1 now L1 p m) := (haft.mono fun F1 h1 => (by rw [← HCUT.out]; exact CF.of_cut h1 HCON.out HSY.out)).after HCH1.out
    obtain ⟨F1, ⟨K1, T1, ⟨ex, mx, lx, tx, cpx, tlx, FTx, fx, esx, hCX, _⟩, _, _⟩, _, _⟩ := id haft2
    have HAFT := Lib.hid haft2
    have HCX := Lib.hid hCX
    clear haft haft2 hCX HREM HOLD c6
    go_wp2_with fail
    go_loop [5] (FreeR (rowS L1) n) (fun i => n - (intOf i).toNat)
    case atStart => exact ⟨0, Nat.zero_le _, rfl, fun t ht => absurd ht (Nat.not_lt_zero _)⟩
    case round =>
      obtain ⟨j, hj, rfl, hall⟩ := hrel
      have hjn : j < n := by
        refine Classical.byContradiction fun hh => ?_
        have := range_in n (rowS L1) fun i hi => hall i (by omega)
        have := HLT.out
        omega
      have hlru := HCX.out.lru
      have cx6 : WX.cell? ⟨cb, 6, none⟩ = some (.pointer (some ⟨lx, 0, none⟩)) := cell_of HCX.out.head
      have HALL := Lib.hid hall
      clear hall
      by_cases hm : j ∈ rowS L1
      · go_wp2_with (go_at_call 50; refine (Lr.has_in lx n j true (rowS L1) _ hlru hjn (by simp [hm])).mono ?_; rintro e9 w9 ⟨rfl, rfl⟩)
        go_round
        case rel =>
          refine ⟨j + 1, by omega, by go_num, fun t ht => ?_⟩
          by_cases e : t = j
          · rw [e]; exact hm
          · exact HALL.out t (by omega)
        case measure => simp [intOf] <;> omega
      · have HM := Lib.hid hm
        clear hm
        go_wp2_with (go_at_call 50; refine (Lr.has_in lx n j false (rowS L1) _ hlru hjn (by simp [HM.out])).mono ?_; rintro e9 w9 ⟨rfl, rfl⟩)
        go_ret
        exact ⟨j, rfl, hjn, HM.out, HAFT.out⟩
  · have hL1 : L1 = L := by rw [HL1.out]; unfold fullL; rw [if_neg (by rw [← HLN.out]; exact hfull)]
    have t1 : ((ln : Int) == (n : Int)) = false := by simp; omega
    rw [t1]
    have c6 := S1.out.2
    clear S0 S1
    obtain ⟨WX, hWX⟩ : ∃ WX, WX = w1 := ⟨_, rfl⟩
    obtain ⟨lx, hlx⟩ : ∃ lx, lx = lb := ⟨_, rfl⟩
    have HLT : Hid ((rowS L1).length < n) := Lib.hid (by rw [hL1, HRL.out]; omega)
    have HCX := Lib.hid (HC.out.other hc1 (by simp) (noSet_nil w))
    have HAFT : Hid (Aft F w w1 (fun F' => CF F' w1 cb n k0 k1 now L1 p m)) := Lib.hid (aft_chg (by rw [hL1]; exact ⟨K, T, HS.out.same hc1, HCON.out, HSY.out⟩) hc1)
    rw [← hL1, ← hWX, ← hlx] at HCX
    rw [← hWX] at HAFT
    rw [← hWX]
    clear hWX c6 hL1 hlx hc1 hfull t1
    go_wp2_with fail
    go_loop [5] (FreeR (rowS L1) n) (fun i => n - (intOf i).toNat)
    case atStart => exact ⟨0, Nat.zero_le _, rfl, fun t ht => absurd ht (Nat.not_lt_zero _)⟩
    case round =>
      obtain ⟨j, hj, rfl, hall⟩ := hrel
      have hjn : j < n := by
        refine Classical.byContradiction fun hh => ?_
        have := range_in n (rowS L1) fun i hi => hall i (by omega)
        have := HLT.out
        omega
      have hlru := HCX.out.lru
      have cx6 : WX.cell? ⟨cb, 6, none⟩ = some (.pointer (some ⟨lx, 0, none⟩)) := cell_of HCX.out.head
      have HALL := Lib.hid hall
      clear hall
      by_cases hm : j ∈ rowS L1
      · go_wp2_with (go_at_call 50; refine (Lr.has_in lx n j true (rowS L1) _ hlru hjn (by simp [hm])).mono ?_; rintro e9 w9 ⟨rfl, rfl⟩)
        go_round
        case rel =>
          refine ⟨j + 1, by omega, by go_num, fun t ht => ?_⟩
          by_cases e : t = j
          · rw [e]; exact hm
          · exact HALL.out t (by omega)
        case measure => simp [intOf] <;> omega
      · have HM := Lib.hid hm
        clear hm
        go_wp2_with (go_at_call 50; refine (Lr.has_in lx n j false (rowS L1) _ hlru hjn (by simp [HM.out])).mono ?_; rintro e9 w9 ⟨rfl, rfl⟩)
        go_ret
        exact ⟨j, rfl, hjn, HM.out, HAFT.out⟩
end

end Go.Proofs.Ytgdnfempcjlipaa
