/- Questions held against each other; the walk of slot. -/
import Derived.Test.YtgdnfempcjlipaaCacG
import Derived.DeepKeys5
import Derived.Deep.QuietTactic
namespace Go.Proofs.Ytgdnfempcjlipaa
open Go.RowKit Go.Maps

theorem Try.laidF : laidOutB Try.prog = true := by kernel_rfl
theorem lawQ : Keyed Try.prog 24 := Keyed.of_law (deep_law_laid Try.laidF (m := 3) (by omega) (of_decide_eq_true (by kernel_rfl)) (by kernel_rfl) (by kernel_rfl))
def keyQ (q : Qn) : Lit := .string (keyBytes [.string q.nm.data.toList, .int .u16 (q.ty : Nat), .int .u16 (q.cl : Nat)])
structure OkQ (q : Qn) : Prop where
  name : q.nm.size ≤ maxLen
  ty : q.ty < 65536
  cl : q.cl < 65536
theorem wf_q16 {x : Nat} (h : x < 65536) : (Lit.int .u16 (x : Int)).wf = true := by
  simp [Lit.wf, IntKind.min, IntKind.max, IntKind.signed, IntKind.bits]
  omega
theorem key_q {q : Qn} (h : OkQ q) : keyOf Try.prog 24 (.agg (qV q)) = some (keyQ q) := by
  have k1 : Try.prog.keyType 24 = true := by kernel_rfl
  have c1 : Try.prog.cellsOf 24 = 3 := by kernel_rfl
  have c2 : Try.prog.cellsOf 9 = 1 := by kernel_rfl
  have c3 : Try.prog.cellsOf 22 = 1 := by kernel_rfl
  obtain ⟨n, hn⟩ : ∃ n, n + 2 = Try.prog.types.size + 1 := ⟨Try.prog.types.size - 1, by kernel_rfl⟩
  have e1 : (Value.agg (qV q)).formed Try.prog 24 = true := by
    simp [Value.formed, Try.underlying24, c1, qV]
  unfold keyOf
  rw [Try.underlying24]
  simp only [k1, e1, Bool.and_self, if_true]
  rw [← hn]
  have hs : q.nm.size ≤ maxLen := h.name
  have w1 := wf_q16 h.ty
  have w2 := wf_q16 h.cl
  simp [Program.keyLits, Try.underlying24, Try.underlying9, Try.underlying22, c1, c2, c3, qV, Value.cells, hs, w1, w2, keyQ]
theorem keyQ_inj {a b : Qn} (ha : OkQ a) (hb : OkQ b) (h : keyQ a = keyQ b) : a = b := by
  have e := lawQ.inj (key_q ha) (h ▸ key_q hb)
  unfold qV at e
  injection e with e
  injection e with e
  injection e with e1 e
  injection e with e2 e
  injection e with e3 e
  injection e1 with e1
  injection e2 with _ e2
  injection e3 with _ e3
  obtain ⟨n1, t1, c1⟩ := a
  obtain ⟨n2, t2, c2⟩ := b
  simp only at e1 e2 e3
  subst e1
  congr 1 <;> omega
theorem run_eqQ (w : World) {q r : Qn} (hq : OkQ q) (hr : OkQ r) : (Op.equal 24 (.agg (qV q)) (.agg (qV r))).run Try.prog w = .ok (decide (q = r)) w := by
  obtain ⟨b, h1, h2⟩ := run_equal_deep (P := Try.prog) w (m := 3) (by omega) (by kernel_rfl) (by kernel_rfl) (key_q hq) (key_q hr)
  have hb : b = decide (q = r) := by
    by_cases e : q = r
    · subst e; rw [h2.2 rfl, decide_eq_true rfl]
    · rw [decide_eq_false e]
      cases b with
      | false => rfl
      | true => exact absurd (keyQ_inj hq hr (h2.1 rfl)) e
  rw [h1, hb]
theorem eqlQ (w : World) {n1 n2 : ByteArray} {t1 t2 c1 c2 : Nat} (hq : OkQ ⟨n1, t1, c1⟩) (hr : OkQ ⟨n2, t2, c2⟩) : (binOp .eql 24 (.agg #[.string n1, .int .u16 (t1 : Nat), .int .u16 (c1 : Nat)]) (.agg #[.string n2, .int .u16 (t2 : Nat), .int .u16 (c2 : Nat)])).run Try.prog w = .ok (.bool (decide ((⟨n1, t1, c1⟩ : Qn) = ⟨n2, t2, c2⟩))) w := by
  have h := run_eqQ w hq hr
  unfold qV at h
  simp only [binOp, Sem.run_bind, h, Result.andThen_ok, Sem.run_pure]
theorem neqQ (w : World) {n1 n2 : ByteArray} {t1 t2 c1 c2 : Nat} (hq : OkQ ⟨n1, t1, c1⟩) (hr : OkQ ⟨n2, t2, c2⟩) : (binOp .neq 24 (.agg #[.string n1, .int .u16 (t1 : Nat), .int .u16 (c1 : Nat)]) (.agg #[.string n2, .int .u16 (t2 : Nat), .int .u16 (c2 : Nat)])).run Try.prog w = .ok (.bool (!decide ((⟨n1, t1, c1⟩ : Qn) = ⟨n2, t2, c2⟩))) w := by
  have h := run_eqQ w hq hr
  unfold qV at h
  simp only [binOp, Sem.run_bind, h, Result.andThen_ok, Sem.run_pure]

def slotF (L : List Sl) (q : Qn) : Option Sl := L.find? fun x => decide (x.e.q = q)
/-- What holds between the parts, when nothing is under way. -/
structure Con (k0 k1 : Nat) (row : List Nat) (L : List Sl) (K : List (Nat × Nat)) : Prop where
  row : row = rowS L
  perm : K.Perm (L.map fun x => (x.s, hashQ k0 k1 x.e.q))
  nd : (rowS L).Nodup
  qs : ((ensS L).map (·.q)).Nodup
  ok : ∀ x ∈ L, x.e.q.nm.size ≤ 255 ∧ x.e.q.ty < 65536 ∧ x.e.q.cl < 65536
  len : L.length ≤ 256
theorem Con.mem {k0 k1 : Nat} {row : List Nat} {L : List Sl} {K : List (Nat × Nat)} (h : Con k0 k1 row L K) {x : Sl} (hx : x ∈ L) : (x.s, hashQ k0 k1 x.e.q) ∈ K := h.perm.mem_iff.2 (List.mem_map.2 ⟨x, hx, rfl⟩)
theorem Con.of {k0 k1 : Nat} {row : List Nat} {L : List Sl} {K : List (Nat × Nat)} (h : Con k0 k1 row L K) {s r : Nat} (hx : (s, r) ∈ K) : ∃ x ∈ L, x.s = s ∧ hashQ k0 k1 x.e.q = r := by
  obtain ⟨x, hx, e⟩ := List.mem_map.1 (h.perm.mem_iff.1 hx)
  injection e with e1 e2
  exact ⟨x, hx, e1, e2⟩
theorem Con.keys {k0 k1 : Nat} {row : List Nat} {L : List Sl} {K : List (Nat × Nat)} (h : Con k0 k1 row L K) : (K.map (·.1)).Nodup := by
  have h1 := (h.perm.map (·.1)).nodup_iff.2
  rw [List.map_map] at h1
  exact h1 h.nd
theorem Con.klen {k0 k1 : Nat} {row : List Nat} {L : List Sl} {K : List (Nat × Nat)} (h : Con k0 k1 row L K) : K.length ≤ 256 := by rw [h.perm.length_eq, List.length_map]; exact h.len
/-- Looking through a hash's slots finds the question's, if there is one. -/
theorem slot_found {k0 k1 : Nat} {row : List Nat} {L : List Sl} {K : List (Nat × Nat)} (h : Con k0 k1 row L K) {q : Qn} {x : Sl} (hx : x ∈ L) (hq : x.e.q = q) : slotF L q = some x := by
  unfold slotF
  cases hf : L.find? (fun x => decide (x.e.q = q)) with
  | none =>
    have := List.find?_eq_none.1 hf x hx
    simp [hq] at this
  | some y =>
    have h1 := List.mem_of_find?_eq_some hf
    have h2 := List.find?_some hf
    simp only [decide_eq_true_eq] at h2
    have hn := h.qs
    have e : (ensS L).map (·.q) = L.map fun z => z.e.q := by unfold ensS; rw [List.map_map]; rfl
    rw [e] at hn
    rw [inj_of_nodup hn h1 hx (h2.trans hq.symm)]
theorem slot_none {k0 k1 : Nat} {row : List Nat} {L : List Sl} {K : List (Nat × Nat)} (h : Con k0 k1 row L K) {q : Qn} (hno : ∀ s ∈ kh K (hashQ k0 k1 q), ∀ x ∈ L, x.s = s → x.e.q ≠ q) : slotF L q = none := by
  unfold slotF
  rw [List.find?_eq_none]
  intro x hx
  simp only [decide_eq_true_eq]
  intro e
  refine hno x.s ?_ x hx rfl e
  have := h.mem hx
  rw [e] at this
  exact kh_mem.2 this
def SlotR (w : World) (kl : List Nat) (L : List Sl) (q : Qn) (i : Value) (wr : World) : Prop := ∃ j : Nat, j ≤ kl.length ∧ i = .int .i64 (j : Nat) ∧ Chg [] w wr ∧ ∀ t (h : t < kl.length), t < j → ∀ x ∈ L, x.s = kl[t] → x.e.q ≠ q

theorem c4c_chg {w w' : World} {p q r s : Addr} {a b c d : Value} (h : w.cell? p = some a ∧ w.cell? q = some b ∧ w.cell? r = some c ∧ w.cell? s = some d) (hc : Chg [] w w') : w'.cell? p = some a ∧ w'.cell? q = some b ∧ w'.cell? r = some c ∧ w'.cell? s = some d :=
  ⟨hc.cell h.1 (by simp), hc.cell h.2.1 (by simp), hc.cell h.2.2.1 (by simp), hc.cell h.2.2.2 (by simp)⟩
section
variable (F : List Nat) (cb n k0 k1 : Nat) (now : Int) (row : List Nat) (L : List Sl) (K : List (Nat × Nat)) (T : List Ti.It) (p m : Nat) (w : World)
def slotV (o : Option Sl) : Array Value := match o with | some x => #[.int .i64 (x.s : Nat), .bool true] | none => #[.int .i64 0, .bool false]
set_option maxRecDepth 100000 in
set_option maxHeartbeats 8000000 in
theorem slot_any (q : Qn) (h : CS F w cb n k0 k1 now row L K T p m) (hcon : Con k0 k1 row L K) (hq1 : q.nm.size ≤ 255) (hq2 : q.ty < 65536) (hq3 : q.cl < 65536) :
    Calls Try.prog 29 #[.pointer (some ⟨cb, 0, none⟩), .agg (qV q)] w fun e w' => e = .returned (.tuple (slotV (slotF L q))) ∧ Chg [] w w' := by
  obtain ⟨eb, mb, lb, tb, cp, tl, FT, f, es, hC, hF⟩ := h
  obtain ⟨nm, ty, cl⟩ := q
  unfold qV
  simp only at hq1 hq2 hq3 ⊢
  obtain ⟨so, hso⟩ : ∃ so, so = slotF L ⟨nm, ty, cl⟩ := ⟨_, rfl⟩
  rw [← hso]
  have HSO := Lib.hid hso
  clear hso
  obtain ⟨r, hr⟩ : ∃ r, r = hashQ k0 k1 ⟨nm, ty, cl⟩ := ⟨_, rfl⟩
  have hrl : r < 18446744073709551616 := by rw [hr]; exact hashQ_lt _ _ _ hC.l0 hC.l1
  have HR := Lib.hid hr
  obtain ⟨kl, hkl⟩ : ∃ kl, kl = kh K r := ⟨_, rfl⟩
  have hrd : ∃ ra rc, rowAt f r = .slice ra kl.length rc ∧ ∀ i (hi : i < kl.length), ∃ g, ra = some ⟨g, 0, none⟩ ∧ w.cell? ⟨g, i, none⟩ = some (.int .i64 (kl[i] : Nat)) := by
    unfold rowAt
    cases hf : f r with
    | none =>
      have := hC.rows.no r hf
      rw [← hkl] at this
      subst this
      exact ⟨none, 0, rfl, fun i hi => absurd hi (by simp)⟩
    | some v =>
      have ho := (hC.rows.yes r v hf).2
      rw [← hkl] at ho
      obtain ⟨ra, rc, hv⟩ := ho.len
      refine ⟨ra, rc, hv, fun i hi => ?_⟩
      obtain ⟨g, c, hv2, _, _, hx⟩ := ho.cells intV_len (by omega)
      have := hx i hi 0 _ rfl
      rw [Nat.mul_one, Nat.add_zero] at this
      rw [hv] at hv2
      injection hv2 with e1
      exact ⟨g, e1, this⟩
  obtain ⟨ra, rc, hra, hrd⟩ := hrd
  have hkll : kl.length ≤ 256 := by
    rw [hkl]
    unfold kh
    rw [List.length_map]
    exact Nat.le_trans (List.length_filter_le _ _) hcon.klen
  have hlk : ∀ W, Chg [] w W → (Instr.lookup 66 (.map (some mb)) (.int .u64 (r : Int)) false).run Try.prog W = .ok (.slice ra kl.length rc) W := by
    intro W hW
    rw [← hra]
    exact (hC.map.chg hW (by simp)).look hrl
  have l0 := hC.l0
  have l1 := hC.l1
  have HC := Lib.hid hC
  have HCON := Lib.hid hcon
  have HKL := Lib.hid hkl
  have HRD := Lib.hid hrd
  have HLK := Lib.hid hlk
  have hc0 : w.cell? ⟨cb, 1, none⟩ = some (.int .u64 (k0 : Nat)) ∧ w.cell? ⟨cb, 2, none⟩ = some (.int .u64 (k1 : Nat)) := ⟨cell_of hC.head, cell_of hC.head⟩
  have HH := Lib.hid hc0
  have c5 : w.cell? ⟨cb, 5, none⟩ = some (.map (some mb)) := cell_of hC.head
  have C5 := Lib.hid c5
  obtain ⟨ln, hln⟩ : ∃ ln, ln = kl.length := ⟨_, rfl⟩
  have HLN := Lib.hid hln
  rw [← hln] at hkll
  have hn256 : n ≤ 256 := hC.lru.1
  clear hC hcon hkl hrd hlk hc0 c5 hr hF hra hln
  go_enter Try.func29, Try.ntmps29
  go_wp2_with fail
  obtain ⟨pb, hpb⟩ : ∃ pb, pb = w.heap.size := ⟨_, rfl⟩
  rw [← hpb]
  refine wp_abs ?_
  intro w0 hw0
  have hch0 : Chg [] w w0 := by rw [hw0]; exact (Chg.refl _ _).alloc _
  have hp0 : w0.heap[pb]? = some (.cells #[.string nm, .int .u16 (ty : Nat), .int .u16 (cl : Nat)] 24 (0, 0)) := by rw [hw0, hpb]; exact heap_new _ _
  have S0 : Hid (w0.cell? ⟨cb, 5, none⟩ = some (.map (some mb)) ∧ w0.cell? ⟨pb, 0, none⟩ = some (.string nm) ∧ w0.cell? ⟨pb, 1, none⟩ = some (.int .u16 (ty : Nat)) ∧ w0.cell? ⟨pb, 2, none⟩ = some (.int .u16 (cl : Nat))) := Lib.hid ⟨hch0.cell C5.out (by simp), cell_of hp0, cell_of hp0, cell_of hp0⟩
  have HP0 := Lib.hid hp0
  have HC0 := Lib.hid hch0
  clear hpb hw0 hch0 hp0
  go_region_held3 (fun W => W.cell? ⟨cb, 5, none⟩ = some (.map (some mb)) ∧ W.cell? ⟨pb, 0, none⟩ = some (.string nm) ∧ W.cell? ⟨pb, 1, none⟩ = some (.int .u16 (ty : Nat)) ∧ W.cell? ⟨pb, 2, none⟩ = some (.int .u16 (cl : Nat))) (first | (with_reducible exact S1.out) | exact S0.out) (first | (go_at_call 31; refine (hash_any cb k0 k1 ⟨nm, ty, cl⟩ r _ ?_ ?_ l0 l1 (Nat.le_trans hq1 (by omega)) hq2 hq3 HR).mono ?_; exact HC0.out.cell HH.out.1 (by simp); exact HC0.out.cell HH.out.2 (by simp); rintro e9 w1 ⟨rfl, hc1⟩; replace hc1 := hc1.undrew; have S1 := Lib.hid (c4c_chg S0.out hc1); have HC1 := Lib.hid (HC0.out.trans hc1); have HP1 := Lib.hid (hc1.keep HP0.out (by simp)); have hlk1 := HLK.out w1 HC1.out; rw [← HLN.out] at hlk1; clear hc1))
  clear hlk1 S0 S1 HP0 HC0
  go_wp2_with fail
  go_loopw [17] (SlotR w1 kl L ⟨nm, ty, cl⟩) (fun i _ => ln - (intOf i).toNat)
  case atStart => exact ⟨0, Nat.zero_le _, rfl, Chg.refl _ _, fun t _ ht => absurd ht (Nat.not_lt_zero _)⟩
  case round =>
    obtain ⟨j, hj, rfl, hch, hno⟩ := hrel
    rw [← HLN.out] at hj
    have HNO := Lib.hid hno
    have HCH := Lib.hid hch
    clear hno
    by_cases hlt : j < ln
    · have hjl : j < kl.length := by rw [← HLN.out]; exact hlt
      obtain ⟨g, hg, hcell⟩ := HRD.out j hjl
      have hmem : kl[j] ∈ kh K r := by rw [← HKL.out]; exact List.getElem_mem hjl
      obtain ⟨x, hxL, hxs, hxh⟩ := HCON.out.of (kh_mem.1 hmem)
      have hC1 := HC.out.other (HC1.out.trans hch) (by simp) (noSet_nil w)
      obtain ⟨hse, hen⟩ := hC1.eok _ hxL
      have hen := hen hse
      have hsn : x.s < n := by rw [← hC1.elen]; exact hse
      obtain ⟨o1, o2, o3⟩ := HCON.out.ok x hxL
      rw [← hxs] at hcell
      obtain ⟨s, hs⟩ : ∃ s, s = x.s := ⟨_, rfl⟩
      rw [← hs] at hcell hsn
      have k0 : wr.cell? ⟨g, j, none⟩ = some (.int .i64 (s : Nat)) := (HC1.out.trans hch).cell hcell (by simp)
      have c4 : wr.cell? ⟨cb, 4, none⟩ = some (.slice (some ⟨eb, 0, none⟩) n cp) := cell_of hC1.head
      have d0 : wr.cell? ⟨eb, s * 7, none⟩ = some (.string x.e.q.nm) := by rw [hs, cell_of hC1.ents]; exact eRow_get hse (j := 0) (by rw [← hen.q]; rfl)
      have d1 : wr.cell? ⟨eb, s * 7 + 1, none⟩ = some (.int .u16 (x.e.q.ty : Nat)) := by rw [hs, cell_of hC1.ents]; exact eRow_get hse (j := 1) (by rw [← hen.q]; rfl)
      have d2 : wr.cell? ⟨eb, s * 7 + 2, none⟩ = some (.int .u16 (x.e.q.cl : Nat)) := by rw [hs, cell_of hC1.ents]; exact eRow_get hse (j := 2) (by rw [← hen.q]; rfl)
      have hp := hch.keep HP1.out (by simp)
      have p0 : wr.cell? ⟨pb, 0, none⟩ = some (.string nm) := cell_of hp
      have p1 : wr.cell? ⟨pb, 1, none⟩ = some (.int .u16 (ty : Nat)) := cell_of hp
      have p2 : wr.cell? ⟨pb, 2, none⟩ = some (.int .u16 (cl : Nat)) := cell_of hp
      obtain ⟨yq, hyq⟩ : ∃ yq, yq = x.e.q := ⟨_, rfl⟩
      rw [← hyq] at d0 d1 d2 o1 o2 o3
      obtain ⟨n2, t2, l2⟩ := yq
      simp only at d0 d1 d2 o1 o2 o3
      obtain ⟨b, hb⟩ : ∃ b, b = decide ((⟨n2, t2, l2⟩ : Qn) = ⟨nm, ty, cl⟩) := ⟨_, rfl⟩
      have heq := fun W => eqlQ W (n1 := n2) (t1 := t2) (c1 := l2) (n2 := nm) (t2 := ty) (c2 := cl) ⟨(by show n2.size ≤ maxLen; unfold maxLen; omega), o2, o3⟩ ⟨(by show nm.size ≤ maxLen; unfold maxLen; omega), hq2, hq3⟩
      rw [← hb] at heq
      have HB := Lib.hid hb
      have HX := Lib.hid (And.intro hxL (And.intro hxs (And.intro hyq hs)))
      subst hg
      clear hmem hxL hxs hxh hC1 hse hen hcell hp hyq hb hs o1 o2 o3
      go_wp2_with fail
      go_quiet (fail)
      generalize hw2 : wr.drewN nq = w2
      have hc2 : Chg [] w1 w2 := by rw [← hw2]; exact HCH.out.drewN _
      clear hw2 k0 c4 d0 d1 d2 p0 p1 p2 heq
      cases b with
      | true =>
        have he := of_decide_eq_true HB.out.symm
        have hf := slot_found HCON.out HX.out.1 (q := ⟨nm, ty, cl⟩) (by rw [← HX.out.2.2.1]; exact he)
        have hso := HSO.out.trans hf
        subst hso
        have hs2 := HX.out.2.2.2
        subst hs2
        have HFIN := Lib.hid (HC1.out.trans hc2)
        clear hf he hc2
        go_wp2
        go_ret2
        exact ⟨rfl, HFIN.out⟩
      | false =>
        go_wp2
        go_roundw
        case rel =>
          refine ⟨j + 1, by rw [← HLN.out]; omega, by go_num, hc2, ?_⟩
          intro t ht htj y hy hys hyq
          by_cases e : t = j
          · subst e
            have h1 := HX.out.2.1
            have hxy : y = x := by
              have := HCON.out.nd
              exact inj_of_nodup this hy HX.out.1 (hys.trans h1.symm)
            have := of_decide_eq_false HB.out.symm
            rw [hxy, ← HX.out.2.2.1] at hyq
            exact this hyq
          · exact HNO.out t ht (by omega) y hy hys hyq
        case measure => simp [intOf] <;> omega
    · obtain rfl : j = ln := by omega
      have hf : slotF L ⟨nm, ty, cl⟩ = none := slot_none HCON.out (by
        intro s hs x hx hxs
        rw [← HR.out, ← HKL.out] at hs
        obtain ⟨t, ht, rfl⟩ := List.getElem_of_mem hs
        exact HNO.out t ht (by rw [HLN.out]; exact ht) x hx hxs)
      have hso := HSO.out.trans hf
      subst hso
      have HFIN := Lib.hid (HC1.out.trans hch)
      clear hf hch
      go_wp2
      go_ret2
      exact ⟨rfl, HFIN.out⟩
end

end Go.Proofs.Ytgdnfempcjlipaa
