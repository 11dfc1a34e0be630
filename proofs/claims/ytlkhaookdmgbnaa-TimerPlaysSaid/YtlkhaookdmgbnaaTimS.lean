/- Timers: the walk of Copy. -/
import Derived.Test.YtlkhaookdmgbnaaTimR
namespace Go.Proofs.Ytlkhaookdmgbnaa
open Go.RowKit Go.Maps

theorem MapAt.len {w : World} {mb n : Nat} {f : Int → Option Nat} (h : MapAt w mb n f) (ty : TypeId) : ∃ m : Nat, ∀ k, (Builtin.len_ #[57] ty #[.map (some mb)]).run Try.prog (w.drewN k) = .ok (.int .i64 m) (w.drewN k) := by
  obtain ⟨D, h0, h1, h2⟩ := h
  refine ⟨Maps.size D, fun k => ?_⟩
  have h3 : (w.drewN k).ownsMap Try.prog 3 ptrE mb n D := h0
  exact h3.len Try.underlying57 ty

/-- A copy under way: its first k things. -/
def CP (w wr : World) (cb p : Nat) (Q : List (It × Nat)) (k : Nat) : Prop :=
  ∃ mb a c Q' f Fc, HeadAt wr cb (.map (some mb)) (.slice a k c) p ∧ QS wr a k c Q' Fc ∧ itsQ Q' = (itsQ Q).take k ∧ MapAt wr mb k f ∧ FQ f Q' ∧ mb ∉ Fc ∧ cb ∉ Fc ∧ (∀ y ∈ cb :: mb :: Fc, w.heap.size ≤ y) ∧ (∀ y ∈ Fc, y < wr.heap.size) ∧ Chg [] w wr

theorem copy_step {w wr W1 W3 W4 : World} {cb mb g k p : Nat} {Q Q2 : List (It × Nat)} {f2 : Int → Option Nat} {Fc : List Nat} (hkQ : k < Q.length) (hk2 : k = Q2.length) (e3 : itsQ Q2 = (itsQ Q).take k) (e5 : FQ f2 Q2) (e7 : cb ∉ Fc) (e8 : ∀ y ∈ cb :: mb :: Fc, w.heap.size ≤ y)
    (hchg : Chg [] w wr) (hW1 : Chg [] wr W1) (hg : g = wr.heap.size) (hcb : cb < wr.heap.size) (hcm : mb ≠ cb) (hids : ((itsQ Q).map It.id).Nodup)
    (HP : PushPost W1 cb g k p (.map (some mb)) Q[k].1 Q2 Fc W3) (hm3 : MapAt W3 mb k f2) (m4 : MapAt W4 mb (k + 1) (fun x => if x = Q[k].1.id then some g else f2 x)) (c4 : Chg [mb] W3 W4) : CP w W4 cb p Q (k + 1) := by
  obtain ⟨qb3, cap3, p1, p2, p3, p4, p5, p6⟩ := HP
  have hmQ := hm3.notQ p4
  have s1 := hchg.size
  have s2 := hW1.size
  have s3 := p6.size
  have s4 := c4.size
  have hnew : ∀ y ∈ blksQ qb3 (Q2 ++ [(Q[k].1, g)]), w.heap.size ≤ y ∧ y ≠ cb := by
    intro y hy
    rcases p5 y hy with e | e
    · rcases List.mem_cons.1 e with e | e
      · exact ⟨by omega, by omega⟩
      · exact ⟨e8 y (by simp [e]), fun e2 => e7 (e2 ▸ e)⟩
    · exact ⟨by omega, by omega⟩
  have q4 : QAt W4 qb3 cap3 (Q2 ++ [(Q[k].1, g)]) := p4.chg c4 fun y hy => by simp; intro e; exact hmQ (e ▸ hy)
  have hit : itsQ (Q2 ++ [(Q[k].1, g)]) = (itsQ Q).take (k + 1) := by
    have hk' : k < (itsQ Q).length := by simpa [itsQ] using hkQ
    rw [List.take_succ_eq_append_getElem hk', ← e3]
    simp [itsQ]
  have hne : ∀ x ∈ Q2, x.1.id ≠ Q[k].1.id := by
    intro x hx e
    have hk' : k < (itsQ Q).length := by simpa [itsQ] using hkQ
    have h1 : ((itsQ (Q2 ++ [(Q[k].1, g)])).map It.id).Nodup := by
      rw [hit]
      exact hids.sublist ((List.take_sublist _ _).map _)
    unfold itsQ at h1
    rw [List.map_append, List.map_append, List.nodup_append] at h1
    exact h1.2.2 x.1.id (List.mem_map.2 ⟨x.1, List.mem_map.2 ⟨x, hx, rfl⟩, rfl⟩) Q[k].1.id (by simp) e
  refine ⟨mb, some ⟨qb3, 0, none⟩, cap3, Q2 ++ [(Q[k].1, g)], _, blksQ qb3 (Q2 ++ [(Q[k].1, g)]), p1.chg c4 (by simp; exact Ne.symm hcm), ⟨by simp; exact hk2, p2, .inr ⟨qb3, rfl, p3, q4, fun y hy => hy⟩⟩, hit, m4, ?_, hmQ, fun hx => (hnew cb hx).2 rfl, ?_, ?_, ?_⟩
  · intro y b
    dsimp only
    by_cases e : y = Q[k].1.id
    · rw [if_pos e]
      constructor
      · intro h
        injection h with h
        exact ⟨(Q[k].1, g), by simp, e.symm, h⟩
      · rintro ⟨x, hx, h1, h2⟩
        rcases List.mem_append.1 hx with hh | hh
        · exact absurd (h1.trans e) (hne x hh)
        · simp at hh
          rw [← h2, hh]
    · rw [if_neg e, e5 y b]
      constructor
      · rintro ⟨x, hx, h1, h2⟩
        exact ⟨x, by simp [hx], h1, h2⟩
      · rintro ⟨x, hx, h1, h2⟩
        rcases List.mem_append.1 hx with hh | hh
        · exact ⟨x, hh, h1, h2⟩
        · simp at hh
          rw [hh] at h1
          exact absurd h1.symm e
  · intro y hy
    rcases List.mem_cons.1 hy with e | e
    · exact e8 y (by simp [e])
    · rcases List.mem_cons.1 e with e | e
      · exact e8 y (by simp [e])
      · exact (hnew y e).1
  · intro y hy
    rcases List.mem_cons.1 hy with e | e
    · rw [e]; exact q4.lt
    · obtain ⟨x, hx, rfl⟩ := List.mem_map.1 e
      obtain ⟨i, hi, rfl⟩ := List.getElem_of_mem hx
      exact (q4.items i hi).lt
  · refine ((hchg.trans hW1).trans_new p6 ?_).trans_new c4 ?_
    · intro y hy
      rcases List.mem_cons.1 hy with e | e
      · right; exact e8 y (by simp [e])
      · rcases List.mem_cons.1 e with e | e
        · right; omega
        · right; exact e8 y (by simp [e])
    · intro y hy
      simp at hy
      right
      exact e8 y (by simp [hy])

theorem copy_end {w wr : World} {tb : Nat} {F : List Nat} {L : List It} {p : Nat} {mv : Value} {a : Option Addr} {n c cb : Nat} {Q : List (It × Nat)} (h : TI w tb F L p mv a n c Q) (hc : CP w wr cb p Q n) : TB w wr cb L p := by
  obtain ⟨mb, a2, c2, Q2, f2, Fc, e1, e2, e3, e4, e5, e6, e7, e8, e9, e10⟩ := hc
  have hQ : itsQ Q2 = itsQ Q := by
    rw [e3, List.take_of_length_le (by simp [itsQ]; have := h.qs.1; omega)]
  have hcm := e4.notT e1
  have hnp : n ≤ p := by rw [h.len]; exact h.ok.len
  obtain ⟨q1, q2, q3⟩ := e2
  refine ⟨mb :: Fc, ⟨.map (some mb), a2, n, c2, Q2, ⟨e1, ⟨q1, q2, ?_⟩, by rw [hQ]; exact h.heap, by rw [hQ]; exact h.perm, .inr ⟨mb, n, f2, rfl, e4, hnp, by simp, e5⟩, by simp only [List.mem_cons, not_or]; exact ⟨Ne.symm hcm, e7⟩, ?_, h.ok⟩⟩, fun y hy => e8 y (List.mem_cons_of_mem _ hy), e8 cb (by simp), e10⟩
  · rcases q3 with q3 | ⟨qb, r1, r2, r3, r4⟩
    · exact .inl q3
    · exact .inr ⟨qb, r1, r2, r3, fun y hy => List.mem_cons_of_mem _ (r4 y hy)⟩
  · intro y hy
    rcases List.mem_cons.1 hy with e | e
    · rw [e]; exact e4.lt
    · exact e9 y e

set_option maxRecDepth 100000 in
set_option maxHeartbeats 4000000 in
theorem copy_any (tb : Nat) (F : List Nat) (L : List It) (p : Nat) (w : World) (h : TimersAt w tb F L p) (hp : p ≤ 1000000) :
    Calls Try.prog 19 #[.pointer (some ⟨tb, 0, none⟩)] w fun e w' => ∃ cb, e = .returned (.pointer (some ⟨cb, 0, none⟩)) ∧ TB w w' cb L p := by
  obtain ⟨mv, a, n, c, Q, h⟩ := h
  have c0 := h.head.c0
  have c1 := h.head.c1
  have c2 := h.head.c2
  have hlt := h.head.lt
  have hl : ∃ m : Nat, ∀ k, (Builtin.len_ #[57] 3 #[mv]).run Try.prog (w.drewN k) = .ok (.int .i64 m) (w.drewN k) := by
    rcases h.map with ⟨rfl, _⟩ | ⟨mb, k, f, rfl, hm, _⟩
    · exact ⟨0, fun k => by kernel_rfl⟩
    · exact hm.len _
  obtain ⟨m, hl⟩ := hl
  have hl1 : (Builtin.len_ #[57] 3 #[mv]).run Try.prog w.drew = .ok (.int .i64 m) w.drew := hl 1
  have HT := Lib.hid h
  have hmk := fun w => mk_map_hint .i64 m w
  obtain ⟨i0, hi0, hz0, hz1, hz2⟩ := info_parts (P := Try.prog) (e := 64) (z := .pointer none) (size := 1) (bytes := 8) (by kernel_rfl)
  clear h hl
  go_enter Try.func19, Try.ntmps19
  go_wp2_with fail
  go_region
  have HCP : Hid (CP w ((w.alloc (.map #[] 0)).alloc (.cells #[.map (some w.heap.size), .slice none 0 0, .int .u64 p] 62)).drew (w.heap.size + 1) p Q 0) := Lib.hid (by
    have hs : (w.alloc (.map #[] 0)).heap.size = w.heap.size + 1 := by simp
    refine ⟨w.heap.size, none, 0, [], fun _ => none, [], heap_new' _ _ _ hs.symm, ⟨rfl, by omega, .inl ⟨rfl, rfl, rfl⟩⟩, by simp [itsQ], (map_new w).chg ((Chg.refl [] _).alloc _).drew (by simp), ?_, by simp, by simp, ?_, by simp, (((Chg.refl [] w).alloc _).alloc _).drew⟩
    · intro k b
      constructor
      · intro h; cases h
      · rintro ⟨x, hx, _⟩; simp at hx
    · intro y hy
      simp at hy
      omega)
  obtain ⟨cb, hcb⟩ : ∃ cb, cb = w.heap.size + 1 := ⟨_, rfl⟩
  have hnp : n ≤ p := by rw [HT.out.len]; exact HT.out.ok.len
  have HNQ := Lib.hid HT.out.qs.1
  rw [← hcb] at HCP ⊢
  clear hl1 hmk c0 c2 hcb
  go_wp2_with fail
  go_loopw [26] (fun v wr => ∃ k, k ≤ n ∧ v = .int .i64 (k : Nat) ∧ CP w wr cb p Q k) (fun v _ => n - (intOf v).toNat)
  case atStart => exact ⟨0, by omega, rfl, HCP.out⟩
  case round =>
    clear HCP
    obtain ⟨k, hk, rfl, hC⟩ := hrel
    have HC := Lib.hid hC
    clear hC
    by_cases hkn : k < n
    · have hkQ : k < Q.length := by have := HNQ.out; omega
      have hch : Chg [] w wr := by obtain ⟨_, _, _, _, _, _, _, _, _, _, _, _, _, _, _, h⟩ := HC.out; exact h
      obtain ⟨mb, a2, c2, Q2, f2, Fc, e1, e2, e3, e4, e5, e6, e7, e8, e9, e10⟩ := HC.out
      have HE := Lib.hid (And.intro e1 (And.intro e2 (And.intro e3 (And.intro e4 (And.intro e5 (And.intro e6 (And.intro e7 (And.intro e8 e9))))))))
      have hit := (HT.out.qs.item hkQ).chg hch (by simp)
      have q0 := hit.c0
      have i1 := hit.c1
      have i2 := hit.c2
      have i3 := hit.c3
      have b1 : (k : Int) < (n : Int) := by omega
      have h1 := e1.c1
      have h0 := e1.c0
      have f1 := e1.fr 1
      have hq : ∃ qb, a = some ⟨qb, 0, none⟩ ∧ w.cell? ⟨qb, k, none⟩ = some (.pointer (some ⟨Q[k].2, 0, none⟩)) := by
        obtain ⟨_, _, hqq⟩ := HT.out.qs
        rcases hqq with ⟨_, e, _⟩ | ⟨qb, ha, _, hq, _⟩
        · omega
        · exact ⟨qb, ha, hq.get k hkQ⟩
      obtain ⟨qb, rfl, hq⟩ := hq
      have hq' := hch.cell hq (by simp)
      have HCH := Lib.hid hch
      have hcblt := e1.lt
      have hcbne : cb ≠ wr.heap.size := by omega
      have hgF : wr.heap.size ∉ Fc := fun hx => by have := e9 _ hx; omega
      obtain ⟨W1, hW1⟩ : ∃ W1, W1 = wr.alloc (.cells #[.int .i64 Q[k].1.id, .int .i64 Q[k].1.due, .int .u64 Q[k].1.put, .int .i64 k] 67) := ⟨_, rfl⟩
      have hcW : Chg [] wr W1 := by rw [hW1]; exact (Chg.refl [] wr).alloc _
      have hsW : W1.heap.size = wr.heap.size + 1 := by rw [hW1]; simp
      have hqW : QS W1 a2 k c2 Q2 Fc := e2.chg hcW (by simp)
      have hhW : HeadAt W1 cb (.map (some mb)) (.slice a2 k c2) p := e1.chg hcW (by simp)
      have hiW : ItemAt W1 wr.heap.size Q[k].1 k := by rw [hW1]; exact heap_new wr _
      have HPUSH : Hid (∀ (w2 : World) (qb cap : Nat) (v' : Value), w2.ownsRow 0 64 1 v' (k + 1) (ptrsQ Q2 ++ [.pointer (some ⟨wr.heap.size, 0, none⟩)]) → (W1.alloc (.cells #[.pointer (some ⟨wr.heap.size, 0, none⟩)] 64)).grownBy w2 (Value.slice a2 k c2).ownBlock →
          v' = .slice (some ⟨qb, 0, none⟩) (k + 1) cap → ((Value.slice a2 k c2).ownBlock = some qb ∨ W1.heap.size + 1 ≤ qb) → PushPost W1 cb wr.heap.size k p (.map (some mb)) Q[k].1 Q2 Fc (w2.setCell ⟨cb, 1, none⟩ v') ∧ w2.cell? ⟨cb, 0, none⟩ = some (.map (some mb)) ∧ w2.cell? ⟨cb, 1, none⟩ = some (.slice a2 k c2) ∧ w2.frozen? ⟨cb, 1, none⟩ = false ∧ w2.cell? ⟨wr.heap.size, 0, none⟩ = some (.int .i64 Q[k].1.id)) := Lib.hid (fun w2 qb cap v' r1 r2 r3 r4 => by
        refine ⟨push_post2 hqW hhW hiW e7 hgF hcbne r1 r2 r3 r4, ?_⟩
        have hC0 : Chg Fc W1 (W1.alloc (.cells #[.pointer (some ⟨wr.heap.size, 0, none⟩)] 64)) := (Chg.refl _ _).alloc _
        have hC1 : Chg Fc W1 w2 := hC0.grown r2 fun y hy => .inl (hqW.own_in hy).1
        have hh2 := hhW.chg hC1 e7
        exact ⟨hh2.c0, hh2.c1, hh2.fr 1, (hiW.chg hC1 hgF).c0⟩)
      have HOW := Lib.hid hqW.owns
      rw [hW1] at HOW
      have HW1 := Lib.hid hW1
      clear hit hq e1 e2 e3 e4 e5 e6 e7 e8 e9 e10 hch c1 hcW hqW hhW hiW hgF hW1 hsW
      go_wp2_with (at_builtin; go_must (refine wpList_push_own rfl _ _ 59 rfl 64 i0 (.pointer none) 8 Try.underlying59 hi0 hz0 hz1 hz2 rfl (.slice a2 k c2) k _ rfl (HOW.out.alloc _) ⟨wr.heap.size + 1, 0, none⟩ 1 (.pointer (some ⟨wr.heap.size, 0, none⟩)) rfl (cell_new1 _ _ _ _ (by simp)) rfl (by unfold maxLen; omega) (by omega) ?_); go_must (intro v1 w2 qb2 cap2 own2 hg2 hv2 hw2; rw [← HW1.out] at hg2 hw2; obtain ⟨P1, k0, k1, kf, ki⟩ := HPUSH.out w2 qb2 cap2 v1 own2 hg2 hv2 (by simpa using hw2); have HP1 := Lib.hid P1; clear P1 own2 hg2 hw2; subst hv2))
      obtain ⟨e1, e2, e3, e4, e5, e6, e7, e8, e9⟩ := HE.out
      have hcm := e4.notT e1
      have hmlt := e4.lt
      have hcW : Chg [] wr W1 := by rw [HW1.out]; exact (Chg.refl [] wr).alloc _
      have hm3 : MapAt (w2.setCell ⟨cb, 1, none⟩ (.slice (some ⟨qb2, 0, none⟩) (k + 1) cap2)) mb k f2 := by
        obtain ⟨_, _, _, _, _, _, _, p6⟩ := HP1.out
        refine (e4.chg hcW (by simp)).chg p6 ?_
        simp only [List.mem_cons, not_or]
        exact ⟨hcm, by omega, e6⟩
      have hidI := HT.out.ok.idI _ (HT.out.mem (List.getElem_mem hkQ))
      obtain ⟨W4, hrun, m4, c4⟩ := MapAt.put (w := (w2.setCell ⟨cb, 1, none⟩ (.slice (some ⟨qb2, 0, none⟩) (k + 1) cap2)).drew) (hm3.chg ((Chg.refl [] _).drew) (by simp)) hidI wr.heap.size (by omega)
      have HST : Hid (CP w W4 cb p Q (k + 1)) := Lib.hid (copy_step hkQ e2.1 e3 e5 e7 e8 HCH.out hcW rfl hcblt hcm (((HT.out.perm.map It.id).nodup_iff).2 HT.out.ok.ids) HP1.out hm3 m4 c4.undrew)
      clear e1 e2 e3 e4 e5 e6 e7 e8 e9 m4 c4 hm3 hcW
      go_region
      go_wp2
      go_roundw
      case rel => exact ⟨k + 1, by omega, by go_num, HST.out⟩
      case measure => simp [intOf]; omega
    · obtain rfl : k = n := by omega
      go_wp2
      go_ret
      exact ⟨cb, rfl, copy_end HT.out HC.out⟩

end Go.Proofs.Ytlkhaookdmgbnaa
