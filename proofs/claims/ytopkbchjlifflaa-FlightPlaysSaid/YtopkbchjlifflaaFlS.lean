/- The document's table of questions under way, in memory; its reads: New, Same, at, Find, Question, Waits, Row. -/
import Derived.Test.YtopkbchjlifflaaFlP
import Derived.Test.YtopkbchjlifflaaNmN
import Derived.Deep.RegionHeld3
namespace Go.Proofs.Ytopkbchjlifflaa
open Go.RowKit Go.Maps

/-- A record of the document's row: its slice is a value. -/
structure RF where
  slot : Nat
  q : Qs
  v : Value
def rfV (r : RF) : List Value := [.int .i64 (r.slot : Nat), .string (bytesV r.q.name), .int .u16 (r.q.ty : Nat), .int .u16 (r.q.cl : Nat), r.v]
theorem rfV_len (r : RF) : (rfV r).length = 5 := rfl
theorem RdW.chgS {S : List Nat} {w w' : World} {v : Value} {l : List Wt} (h : RdW w v l) (hc : Chg S w w') (hS : ∀ g, v.ownBlock = some g → g ∉ S) : RdW w' v l := by
  rcases h with h | ⟨r, c, rfl, h2⟩
  · exact .inl h
  · exact .inr ⟨r, c, rfl, fun i hi j u hu => hc.cell (h2 i hi j u hu) (hS r rfl)⟩
/-- What a record is to be. -/
structure RecOk (G : List Nat) (w : World) (r : RF) (f : Fl) : Prop where
  slot : r.slot = f.slot
  q : r.q = f.q
  ws : RdW w r.v f.ws
  blk : ∀ g, r.v.ownBlock = some g → g ∈ G
  nn : ∀ n c, r.v = .slice none n c → c = 0
structure RTs (G : List Nat) (w : World) (q n m : Nat) (L : List Fl) (v : Value) (rs : List RF) : Prop where
  head : w.heap[q]? = some (.cells #[.int .i64 (n : Nat), .int .i64 (m : Nat), v] 96 (0, 0))
  row : R.OwnR 98 5 rfV 0 w v rs
  len : rs.length = L.length
  recs : ∀ i (h : i < rs.length) (h' : i < L.length), RecOk G w rs[i] L[i]
  ok : OkF n m L
  n1 : 1 ≤ n
  n32 : n ≤ 32
  m16 : m ≤ 16
  fq : q ∈ G
  fv : ∀ g, v.ownBlock = some g → g ∈ G
  nq : ∀ i (h : i < rs.length) g, rs[i].v.ownBlock = some g → g ≠ q ∧ v.ownBlock ≠ some g
  flt : ∀ y ∈ G, y < w.heap.size
def RT (G : List Nat) (w : World) (q n m : Nat) (L : List Fl) : Prop := ∃ v rs, RTs G w q n m L v rs
section
variable {G S : List Nat} {w w' : World} {q n m : Nat} {L : List Fl} {v : Value} {rs : List RF}
theorem RTs.chg (h : RTs G w q n m L v rs) (hc : Chg S w w') (hS : ∀ y ∈ G, y ∉ S) : RTs G w' q n m L v rs :=
  ⟨hc.keep h.head (hS _ h.fq), h.row.chg hc (fun g hg => hS g (h.fv g hg)), h.len, fun i hi hi' => by
    have k := h.recs i hi hi'
    exact ⟨k.slot, k.q, k.ws.chgS hc (fun g hg => hS g (k.blk g hg)), k.blk, k.nn⟩, h.ok, h.n1, h.n32, h.m16, h.fq, h.fv, h.nq, fun y hy => Nat.lt_of_lt_of_le (h.flt y hy) hc.size⟩
theorem RT.chg (h : RT G w q n m L) (hc : Chg S w w') (hS : ∀ y ∈ G, y ∉ S) : RT G w' q n m L := by
  obtain ⟨v, rs, h⟩ := h
  exact ⟨v, rs, h.chg hc hS⟩
theorem RT.same (h : RT G w q n m L) (hc : Chg [] w w') : RT G w' q n m L := h.chg hc (by simp)
theorem RT.lt (h : RT G w q n m L) : ∀ y ∈ G, y < w.heap.size := by obtain ⟨_, _, h⟩ := h; exact h.flt
theorem RT.ok (h : RT G w q n m L) : OkF n m L := by obtain ⟨_, _, h⟩ := h; exact h.ok
theorem RT.n32 (h : RT G w q n m L) : n ≤ 32 := by obtain ⟨_, _, h⟩ := h; exact h.n32
theorem RT.m16 (h : RT G w q n m L) : m ≤ 16 := by obtain ⟨_, _, h⟩ := h; exact h.m16
/-- The cells of the record at place i. -/
theorem RTs.cells (h : RTs G w q n m L v rs) {i : Nat} (hi : i < L.length) : ∃ g c va vc, v = .slice (some ⟨g, 0, none⟩) L.length c ∧ L.length ≤ c ∧ g < w.heap.size ∧ w.cell? ⟨g, i * 5, none⟩ = some (.int .i64 (L[i].slot : Nat)) ∧ w.cell? ⟨g, i * 5 + 1, none⟩ = some (.string (bytesV L[i].q.name))
    ∧ w.cell? ⟨g, i * 5 + 2, none⟩ = some (.int .u16 (L[i].q.ty : Nat)) ∧ w.cell? ⟨g, i * 5 + 3, none⟩ = some (.int .u16 (L[i].q.cl : Nat)) ∧ w.cell? ⟨g, i * 5 + 4, none⟩ = some (.slice va L[i].ws.length vc) ∧ RdW w (.slice va L[i].ws.length vc) L[i].ws ∧ (∀ g', (Value.slice va L[i].ws.length vc).ownBlock = some g' → g' ∈ G ∧ g' ≠ q ∧ g' ≠ g) ∧ (va = none → vc = 0) ∧ w.frozen? ⟨g, i * 5 + 4, none⟩ = false := by
  have hi' : i < rs.length := by rw [h.len]; exact hi
  obtain ⟨g, c, hv, _, hg, hx⟩ := h.row.cells rfV_len (by omega)
  have k := h.recs i hi' hi
  obtain ⟨va, vc, hva⟩ := k.ws.slice
  have hle : L.length ≤ c := by
    obtain ⟨_, h2⟩ := h.row
    rcases h2 with ⟨_, h0⟩ | ⟨g2, cap, cur, hv2, _, _, h3, _⟩
    · omega
    · rw [hv] at hv2
      injection hv2 with _ _ e3
      rw [← h.len, e3]; exact h3
  have hfz : w.frozen? ⟨g, i * 5 + 4, none⟩ = false := by
    obtain ⟨_, h2⟩ := h.row
    rcases h2 with ⟨_, h0⟩ | ⟨g2, cap, cur, hv2, _, hb, _⟩
    · omega
    · rw [hv] at hv2
      injection hv2 with e1 _ _
      injection e1 with e1
      injection e1 with e1
      subst e1
      exact free_of hb
  have hnq := h.nq i hi'
  rw [hv] at hnq
  rw [h.len] at hv
  refine ⟨g, c, va, vc, hv, hle, hg, ?_, ?_, ?_, ?_, ?_, ?_, ?_, fun e => k.nn _ _ (by rw [hva, e]), hfz⟩
  · have := hx i hi' 0 _ rfl; rw [Nat.add_zero, k.slot] at this; exact this
  · have := hx i hi' 1 _ rfl; rw [k.q] at this; exact this
  · have := hx i hi' 2 _ rfl; rw [k.q] at this; exact this
  · have := hx i hi' 3 _ rfl; rw [k.q] at this; exact this
  · have := hx i hi' 4 _ rfl; rw [hva] at this; exact this
  · rw [← hva]; exact k.ws
  · rw [← hva]; exact fun g' hg' => ⟨k.blk g' hg', (hnq g' hg').1, fun e => (hnq g' hg').2 (by rw [e]; rfl)⟩
end
theorem rnew_out (a b : Int) (w : World) (h : okNew a b = false) :
    Calls Try.prog 27 #[.int .i64 a, .int .i64 b] w fun e w' => e = .returned (.tuple #[.pointer none, .int .i64 1]) ∧ w = w' := by
  have h' : a < 1 ∨ 32 < a ∨ b < 1 ∨ 16 < b := by
    unfold okNew at h
    simp at h
    omega
  clear h
  by_cases h1 : a < 1
  · clear h'
    go_enter Try.func27, Try.ntmps27
    go_wp2
    go_ret2
    exact ⟨rfl, rfl⟩
  · by_cases h2 : 32 < a
    · clear h'
      go_enter Try.func27, Try.ntmps27
      go_wp2
      go_ret2
      exact ⟨rfl, rfl⟩
    · by_cases h3 : b < 1
      · clear h'
        go_enter Try.func27, Try.ntmps27
        go_wp2
        go_ret2
        exact ⟨rfl, rfl⟩
      · have h4 : 16 < b := by omega
        clear h'
        go_enter Try.func27, Try.ntmps27
        go_wp2
        go_ret2
        exact ⟨rfl, rfl⟩
theorem rnew_in (n m : Nat) (w : World) (hn1 : 1 ≤ n) (hn : n ≤ 32) (hm1 : 1 ≤ m) (hm : m ≤ 16) :
    Calls Try.prog 27 #[.int .i64 (n : Nat), .int .i64 (m : Nat)] w fun e w' => e = .returned (.tuple #[.pointer (some ⟨w.heap.size, 0, none⟩), .int .i64 0]) ∧ RT [w.heap.size] w' w.heap.size n m [] ∧ Chg [] w w' := by
  have a1 : decide ((n : Int) < 1) = false := by simp; omega
  have a2 : decide ((32 : Int) < (n : Int)) = false := by simp; omega
  have a3 : decide ((m : Int) < 1) = false := by simp; omega
  have a4 : decide ((16 : Int) < (m : Int)) = false := by simp; omega
  have b1 : decide (n < 1) = false := by simp; omega
  have b2 : decide (32 < n) = false := by simp; omega
  have b3 : decide (m < 1) = false := by simp; omega
  have b4 : decide (16 < m) = false := by simp; omega
  go_enter Try.func27, Try.ntmps27
  go_wp2
  go_ret2
  refine ⟨rfl, ⟨_, [], heap_new _ _, R.OwnR.nil _ _ _ _ _, rfl, fun i hi => absurd hi (by simp), okF_nil n m, hn1, hn, hm, by simp, fun g hg => by simp [Value.ownBlock] at hg, fun i hi => absurd hi (by simp), fun y hy => ?_⟩, (Chg.refl _ _).alloc _⟩
  simp at hy; subst hy; simp
theorem rsameQ_any (a b : Qs) (r : Bool) (w : World) (ha : a.name.length ≤ 100000) (hb : b.name.length ≤ 100000) (hr : Hid (r = (mayB a.name && mayB b.name && decide (foldQ a = foldQ b)))) :
    Calls Try.prog 53 #[.agg #[.string (bytesV a.name), .int .u16 (a.ty : Nat), .int .u16 (a.cl : Nat)], .agg #[.string (bytesV b.name), .int .u16 (b.ty : Nat), .int .u16 (b.cl : Nat)]] w fun e w' => e = .returned (.bool r) ∧ Chg [] w w' := by
  obtain ⟨s, hs⟩ : ∃ s, s = bytesV a.name := ⟨_, rfl⟩
  obtain ⟨t, ht⟩ : ∃ t, t = bytesV b.name := ⟨_, rfl⟩
  obtain ⟨r0, hr0⟩ : ∃ r0, r0 = (mayB s.data.toList && mayB t.data.toList && decide (foldS s = foldS t)) := ⟨_, rfl⟩
  have hss : s.size ≤ 100000 := by rw [hs]; exact ha
  have hts : t.size ≤ 100000 := by rw [ht]; exact hb
  have hrr : r = (r0 && decide (a.ty = b.ty) && decide (a.cl = b.cl)) := by
    rw [hr.out, hr0, hs, ht]
    have e : decide (foldQ a = foldQ b) = (decide (foldS (bytesV a.name) = foldS (bytesV b.name)) && decide (a.ty = b.ty) && decide (a.cl = b.cl)) := by
      rw [Bool.eq_iff_iff]
      rw [Bool.and_eq_true, Bool.and_eq_true, decide_eq_true_eq, decide_eq_true_eq, decide_eq_true_eq, decide_eq_true_eq]
      unfold foldQ
      constructor
      · intro h
        injection h with h1 h2 h3
        exact ⟨⟨congrArg bytesV h1, h2⟩, h3⟩
      · rintro ⟨⟨h1, h2⟩, h3⟩
        rw [bytesV_inj (a := foldL a.name) (b := foldL b.name) h1, h2, h3]
    rw [e, bytesV_list, bytesV_list]
    simp [Bool.and_assoc]
  rw [← hs, ← ht]
  have HR := Lib.hid hrr
  have HR0 := Lib.hid hr0
  clear hs ht hrr hr hr0 ha hb
  go_enter Try.func53, Try.ntmps53
  obtain ⟨p0, hp0⟩ : ∃ p0, p0 = w.heap.size := ⟨_, rfl⟩
  go_wp2_with fail
  rw [← hp0]
  refine calls_abs ?_
  intro W hW
  have q1 : W.heap[p0]? = some (.cells #[.string s, .int .u16 (a.ty : Nat), .int .u16 (a.cl : Nat)] 25 (0, 0)) := by rw [hW]; exact heap_old (heap_new' _ _ _ hp0)
  have q2 : W.heap[p0 + 1]? = some (.cells #[.string t, .int .u16 (b.ty : Nat), .int .u16 (b.cl : Nat)] 25 (0, 0)) := by rw [hW]; exact heap_new' _ _ _ (by simp; omega)
  have hcW : Chg [] w W := by rw [hW]; exact ((Chg.refl _ _).alloc _).alloc _
  clear hW hp0
  refine (rsame_any s t r0 W hss hts HR0).mono ?_
  rintro e w1 ⟨rfl, hc1⟩
  have q1 := hc1.keep q1 (by simp)
  have q2 := hc1.keep q2 (by simp)
  have x1 : w1.cell? ⟨p0, 1, none⟩ = some (.int .u16 (a.ty : Nat)) := cell_of q1
  have x2 : w1.cell? ⟨p0, 2, none⟩ = some (.int .u16 (a.cl : Nat)) := cell_of q1
  have y1 : w1.cell? ⟨p0 + 1, 1, none⟩ = some (.int .u16 (b.ty : Nat)) := cell_of q2
  have y2 : w1.cell? ⟨p0 + 1, 2, none⟩ = some (.int .u16 (b.cl : Nat)) := cell_of q2
  have hc := hcW.trans hc1
  clear q1 q2 hcW hc1
  cases r0 with
  | false =>
    have : r = false := by rw [HR.out]; rfl
    subst this
    go_wp2
    go_ret
    exact ⟨rfl, hc⟩
  | true =>
    by_cases e1 : a.ty = b.ty
    · have t1 : ((a.ty : Int) == (b.ty : Int)) = true := by simp; omega
      by_cases e2 : a.cl = b.cl
      · have t2 : ((a.cl : Int) == (b.cl : Int)) = true := by simp; omega
        have : r = true := by rw [HR.out]; simp [e1, e2]
        subst this
        clear e1 e2
        go_wp2
        go_ret
        exact ⟨rfl, hc⟩
      · have t2 : ((a.cl : Int) == (b.cl : Int)) = false := by simp; omega
        have : r = false := by rw [HR.out]; simp [e2]
        subst this
        clear e1 e2
        go_wp2
        go_ret
        exact ⟨rfl, hc⟩
    · have t1 : ((a.ty : Int) == (b.ty : Int)) = false := by simp; omega
      have : r = false := by rw [HR.out]; simp [e1]
      subst this
      clear e1
      go_wp2
      go_ret
      exact ⟨rfl, hc⟩
section
variable (G : List Nat) (x n m : Nat) (L : List Fl) (w : World)
/-- The place of a slot, or -1. -/
def AtK (L : List Fl) (s k : Int) : Prop := (useF L s = true ∧ ∃ i : Nat, k = (i : Int) ∧ ∃ h : i < L.length, (L[i].slot : Int) = s) ∨ (useF L s = false ∧ k = -1)
theorem rat_any (s : Int) (h : RT G w x n m L) :
    Calls Try.prog 46 #[.pointer (some ⟨x, 0, none⟩), .int .i64 s] w fun e w' => (∃ k, e = .returned (.int .i64 k) ∧ AtK L s k) ∧ w = w' := by
  obtain ⟨v, rs, hT⟩ := h
  obtain ⟨av, cv, hv⟩ : ∃ a c, v = .slice a L.length c := by
    obtain ⟨a, c, e⟩ := hT.row.len
    rw [hT.len] at e
    exact ⟨a, c, e⟩
  have c2 : w.cell? ⟨x, 2, none⟩ = some v := cell_of hT.head
  have hlen : L.length ≤ 32 := by have := hT.ok.len; have := hT.n32; omega
  subst hv
  have HT := Lib.hid hT
  clear hT
  go_enter Try.func46, Try.ntmps46
  go_wp2_with fail
  go_loop [5] (fun i => ∃ j : Nat, j ≤ L.length ∧ i = .int .i64 (j : Nat) ∧ ∀ f ∈ L.take j, (f.slot : Int) ≠ s) (fun i => L.length - (intOf i).toNat)
  case atStart => exact ⟨0, Nat.zero_le _, rfl, by simp⟩
  case round =>
    obtain ⟨j, hj, rfl, hno⟩ := hrel
    have HNO := Lib.hid hno
    clear hno
    by_cases hlt : j < L.length
    · obtain ⟨g, c, va, vc, hv, _, _, d0, _⟩ := HT.out.cells hlt
      have hv1 := (Value.slice.inj hv).1
      clear hv
      subst hv1
      obtain ⟨f, hf⟩ : ∃ f, f = L[j] := ⟨_, rfl⟩
      rw [← hf] at d0
      have HF := Lib.hid hf
      clear hf
      by_cases he : (f.slot : Int) = s
      · have t1 : ((f.slot : Int) == s) = true := by simpa using he
        have HE := Lib.hid he
        clear he
        go_wp2
        go_ret
        refine ⟨⟨_, rfl, .inl ⟨?_, j, rfl, hlt, by rw [← HF.out]; exact HE.out⟩⟩, rfl⟩
        unfold useF
        rw [← HE.out]
        have : usedF L f.slot = true := usedF_iff.2 ⟨f, by rw [HF.out]; exact List.getElem_mem hlt, rfl⟩
        simp [this]
      · have t1 : ((f.slot : Int) == s) = false := by simpa using he
        have HE := Lib.hid he
        clear he
        go_wp2
        go_round
        case rel =>
          refine ⟨j + 1, by omega, by go_num, ?_⟩
          intro y hy
          rw [List.take_succ_eq_append_getElem hlt, ← HF.out] at hy
          rcases List.mem_append.1 hy with e | e
          · exact HNO.out y e
          · simp at e; subst e; exact HE.out
        case measure => simp [intOf] <;> omega
    · obtain rfl : j = L.length := by omega
      have hn := HNO.out
      rw [List.take_of_length_le (Nat.le_refl _)] at hn
      have HN := Lib.hid hn
      clear hn HNO
      go_wp2
      go_ret
      refine ⟨⟨_, rfl, .inr ⟨?_, rfl⟩⟩, rfl⟩
      unfold useF
      cases hd : decide (0 ≤ s) with
      | false => rfl
      | true =>
        have h0 : 0 ≤ s := by simpa using hd
        cases hu : usedF L s.toNat with
        | false => rfl
        | true =>
          obtain ⟨f, hf, e⟩ := usedF_iff.1 hu
          exact absurd (by omega : (f.slot : Int) = s) (HN.out f hf)
end

end Go.Proofs.Ytopkbchjlifflaa
