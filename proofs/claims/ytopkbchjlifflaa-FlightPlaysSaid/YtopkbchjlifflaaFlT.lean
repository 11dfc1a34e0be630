/- The document's table of questions under way: Find, Question, Waits, Row. -/
import Derived.Test.YtopkbchjlifflaaFlS
namespace Go.Proofs.Ytopkbchjlifflaa
open Go.RowKit Go.Maps

theorem at_get {n m : Nat} {L : List Fl} (h : OkF n m L) {i : Nat} (hi : i < L.length) : getF L L[i].slot = some L[i] := getF_of h.slots (List.getElem_mem hi)
section
variable (G : List Nat) (x n m : Nat) (L : List Fl) (w : World)
theorem rwaits_any (s : Int) (k : Nat) (h : RT G w x n m L) (hk : Hid (k = waitsF L s)) :
    Calls Try.prog 49 #[.pointer (some ⟨x, 0, none⟩), .int .i64 s] w fun e w' => e = .returned (.int .i64 (k : Nat)) ∧ w = w' := by
  have hat := rat_any G x n m L w s h
  obtain ⟨v, rs, hT⟩ := h
  have c2 : w.cell? ⟨x, 2, none⟩ = some v := cell_of hT.head
  have hlen : L.length ≤ 32 := by have := hT.ok.len; have := hT.n32; omega
  go_enter Try.func49, Try.ntmps49
  go_wp2_with fail
  refine hat.mono ?_
  rintro e w1 ⟨⟨p, rfl, hp⟩, rfl⟩
  rcases hp with ⟨hu, i, rfl, hi, he⟩ | ⟨hu, rfl⟩
  · obtain ⟨g, c, va, vc, rfl, _, _, d0, d1, d2, d3, d4, _, _, _⟩ := hT.cells hi
    have hk2 : k = L[i].ws.length := by rw [hk.out]; unfold waitsF wsF; rw [hu, if_pos rfl, ← he, Int.toNat_natCast, at_get hT.ok hi]; rfl
    rw [← hk2] at d4
    have hiI : (i : Int) < (L.length : Int) := by omega
    clear hT hk hk2 hu he hat d0 d1 d2 d3
    go_wp2
    go_ret
    exact ⟨rfl, rfl⟩
  · have hk2 : k = 0 := by rw [hk.out]; unfold waitsF; rw [hu]; rfl
    subst hk2
    clear hT hk hu hat
    go_wp2
    go_ret
    exact ⟨rfl, rfl⟩
theorem rquest_any (s : Int) (q : Qs) (b : Bool) (h : RT G w x n m L) (hq : Hid (q = questF L s)) (hb : Hid (b = useF L s)) :
    Calls Try.prog 48 #[.pointer (some ⟨x, 0, none⟩), .int .i64 s] w fun e w' => e = .returned (.tuple #[.agg #[.string (bytesV q.name), .int .u16 (q.ty : Nat), .int .u16 (q.cl : Nat)], .bool b]) ∧ Chg [] w w' := by
  obtain ⟨p0, hp0⟩ : ∃ p0, p0 = w.heap.size := ⟨_, rfl⟩
  have hlen : L.length ≤ 32 := by have := h.ok.len; have := h.n32; omega
  go_enter Try.func48, Try.ntmps48
  go_wp2_with fail
  rw [← hp0]
  refine calls_abs ?_
  intro W hW
  have b0 : W.heap[p0]? = some (.cells #[.string ⟨#[]⟩, .int .u16 0, .int .u16 0] 25 (0, 0)) := by rw [hW]; exact heap_new' _ _ _ hp0
  have hcW : Chg [] w W := by rw [hW]; exact (Chg.refl _ _).alloc _
  have m0 : W.cell? ⟨p0, 0, none⟩ = some (.string ⟨#[]⟩) := cell_of b0
  have m1 : W.cell? ⟨p0, 1, none⟩ = some (.int .u16 0) := cell_of b0
  have m2 : W.cell? ⟨p0, 2, none⟩ = some (.int .u16 0) := cell_of b0
  have f0 : ∀ i, W.frozen? ⟨p0, i, none⟩ = false := fun i => free_of b0
  have hl0 : w.heap.size ≤ p0 := by omega
  have hat := rat_any G x n m L W s (h.same hcW)
  obtain ⟨v, rs, hT⟩ := h.same hcW
  have c2 : W.cell? ⟨x, 2, none⟩ = some v := cell_of hT.head
  clear hW hp0 b0
  refine hat.mono ?_
  rintro e w1 ⟨⟨p, rfl, hp⟩, rfl⟩
  rcases hp with ⟨hu, i, rfl, hi, he⟩ | ⟨hu, rfl⟩
  · obtain ⟨g, c, va, vc, rfl, _, _, d0, d1, d2, d3, d4, _, _, _⟩ := hT.cells hi
    have hk2 : L[i].q = q := by rw [hq.out]; unfold questF qsF; rw [hu, if_pos rfl, ← he, Int.toNat_natCast, at_get hT.ok hi]; rfl
    have hb2 : b = true := by rw [hb.out]; exact hu
    subst hb2
    rw [hk2] at d1 d2 d3
    have hiI : (i : Int) < (L.length : Int) := by omega
    have HM := Lib.hid (set3 (a := .string (bytesV q.name)) (b := .int .u16 (q.ty : Nat)) (c := .int .u16 (q.cl : Nat)) m0 m1 m2)
    clear hT hq hb hk2 hu he hat d0 d4 h
    go_wp2
    obtain ⟨m0, m1, m2⟩ := HM.out
    refine bodyPost_ret (v := .tuple #[.agg #[.string (bytesV q.name), .int .u16 (q.ty : Nat), .int .u16 (q.cl : Nat)], .bool true]) (by simp [results, Try.results48, go_sem, m0, m1, m2]) rfl ⟨rfl, ((hcW.setCell (.inr hl0) _).setCell (.inr hl0) _).setCell (.inr hl0) _⟩
  · have hk2 : q = q0 := by rw [hq.out]; unfold questF; rw [hu]; rfl
    have hb2 : b = false := by rw [hb.out]; exact hu
    subst hk2; subst hb2
    have HM := Lib.hid (set3 (a := .string ⟨#[]⟩) (b := .int .u16 0) (c := .int .u16 0) m0 m1 m2)
    clear hT hq hb hu hat h
    go_wp2
    obtain ⟨m0, m1, m2⟩ := HM.out
    refine bodyPost_ret (v := .tuple #[.agg #[.string (bytesV q0.name), .int .u16 (q0.ty : Nat), .int .u16 (q0.cl : Nat)], .bool false]) (by simp [results, Try.results48, go_sem, m0, m1, m2]; exact ⟨rfl, rfl, rfl⟩) rfl ⟨rfl, ((hcW.setCell (.inr hl0) _).setCell (.inr hl0) _).setCell (.inr hl0) _⟩
/-- Of which the first one counts. -/
theorem find_cases {n m : Nat} {L : List Fl} (h : OkF n m L) (q : Qs) {i : Nat} (hi : i < L.length) : (mayB L[i].q.name && mayB q.name && decide (foldQ L[i].q = foldQ q)) = (mayB q.name && decide (L[i].q = foldQ q)) := by
  have hm := h.name _ (List.getElem_mem hi)
  have hf : foldQ L[i].q = L[i].q := by unfold foldQ; rw [hm.2]
  rw [hm.1, hf, Bool.true_and]
set_option maxRecDepth 100000 in
set_option maxHeartbeats 2000000 in
theorem rfind_any (q : Qs) (a : Nat) (b : Bool) (h : RT G w x n m L) (hql : q.name.length ≤ 100000) (ha : Hid (a = findAt L q)) (hb : Hid (b = findIs L q)) :
    Calls Try.prog 44 #[.pointer (some ⟨x, 0, none⟩), .agg #[.string (bytesV q.name), .int .u16 (q.ty : Nat), .int .u16 (q.cl : Nat)]] w fun e w' => e = .returned (.tuple #[.int .i64 (a : Nat), .bool b]) ∧ Chg [] w w' := by
  have hlen : L.length ≤ 32 := by have := h.ok.len; have := h.n32; omega
  obtain ⟨nx, hnx⟩ : ∃ nx, nx = bytesV q.name := ⟨_, rfl⟩
  rw [← hnx]
  obtain ⟨p0, hp0⟩ : ∃ p0, p0 = w.heap.size := ⟨_, rfl⟩
  have hok := h.ok
  obtain ⟨v, rs, hT⟩ := h
  obtain ⟨av, cv, hv⟩ : ∃ a c, v = .slice a L.length c := by
    obtain ⟨a, c, e⟩ := hT.row.len
    rw [hT.len] at e
    exact ⟨a, c, e⟩
  subst hv
  have HNX := Lib.hid hnx
  have HOK := Lib.hid hok
  have HT := Lib.hid hT
  have hb0 : (w.alloc (.cells #[.string nx, .int .u16 (q.ty : Nat), .int .u16 (q.cl : Nat)] 25)).heap[p0]? = some (.cells #[.string nx, .int .u16 (q.ty : Nat), .int .u16 (q.cl : Nat)] 25 (0, 0)) := heap_new' _ _ _ hp0
  have hcW : Chg [] w (w.alloc (.cells #[.string nx, .int .u16 (q.ty : Nat), .int .u16 (q.cl : Nat)] 25)) := (Chg.refl _ _).alloc _
  have HB0 := Lib.hid hb0
  have HCW := Lib.hid hcW
  have HP0 := Lib.hid hp0
  clear hnx hok hT hb0 hcW hp0
  go_enter Try.func44, Try.ntmps44
  go_wp2_with fail
  rw [← HP0.out]
  go_loopw [6] (fun i wr => ∃ j : Nat, j ≤ L.length ∧ i = .int .i64 (j : Nat) ∧ wr.heap[p0]? = some (.cells #[.string nx, .int .u16 (q.ty : Nat), .int .u16 (q.cl : Nat)] 25 (0, 0)) ∧ Chg [] w wr ∧ ∀ f ∈ L.take j, (mayB q.name && decide (f.q = foldQ q)) = false) (fun i _ => L.length - (intOf i).toNat)
  case atStart => exact ⟨0, Nat.zero_le _, rfl, HB0.out, HCW.out, by simp⟩
  case round =>
    clear HB0 HCW
    obtain ⟨j, hj, rfl, hb0, hC, hno⟩ := hrel
    have HNO := Lib.hid hno
    clear hno
    have c2 : wr.cell? ⟨x, 2, none⟩ = some (.slice av L.length cv) := cell_of (hC.keep HT.out.head (by simp))
    by_cases hlt : j < L.length
    · obtain ⟨g, c, va, vc, hv, _, _, d0, d1, d2, d3, _, _⟩ := (HT.out.chg hC (by simp)).cells hlt
      have hv1 := (Value.slice.inj hv).1
      clear hv
      subst hv1
      obtain ⟨f, hf⟩ : ∃ f, f = L[j] := ⟨_, rfl⟩
      have hfc := find_cases HOK.out q hlt
      have hfo := HOK.out.okQ _ (List.getElem_mem hlt)
      have hfm := HOK.out.name _ (List.getElem_mem hlt)
      rw [← hf] at d0 d1 d2 d3 hfc hfo hfm
      have hfl : f.q.name.length ≤ 100000 := by have := foldL_len f.q.name; rw [hfm.2] at this; omega
      obtain ⟨r, hr⟩ : ∃ r, r = (mayB q.name && decide (f.q = foldQ q)) := ⟨_, rfl⟩
      have hcall := fun W => rsameQ_any f.q q r W hfl hql (Lib.hid (by rw [hr, hfc]))
      rw [← HNX.out] at hcall
      have k0 : wr.cell? ⟨p0, 0, none⟩ = some (.string nx) := cell_of hb0
      have k1 : wr.cell? ⟨p0, 1, none⟩ = some (.int .u16 (q.ty : Nat)) := cell_of hb0
      have k2 : wr.cell? ⟨p0, 2, none⟩ = some (.int .u16 (q.cl : Nat)) := cell_of hb0
      have S0 := Lib.hid (And.intro c2 (And.intro d1 (And.intro d2 (And.intro d3 (And.intro k0 (And.intro k1 k2))))))
      have HF := Lib.hid hf
      have HR := Lib.hid hr
      have HB0 := Lib.hid hb0
      have HC := Lib.hid hC
      clear hf hfc hfo hfm hfl hr hb0 hC
      go_wp2_with fail
      have hsame : ∀ W W', Chg [] W W' → (W.cell? ⟨x, 2, none⟩ = some (.slice (some ⟨g, 0, none⟩) L.length cv) ∧ W.cell? ⟨g, j * 5 + 1, none⟩ = some (.string (bytesV f.q.name)) ∧ W.cell? ⟨g, j * 5 + 2, none⟩ = some (.int .u16 (f.q.ty : Nat)) ∧ W.cell? ⟨g, j * 5 + 3, none⟩ = some (.int .u16 (f.q.cl : Nat)) ∧ W.cell? ⟨p0, 0, none⟩ = some (.string nx) ∧ W.cell? ⟨p0, 1, none⟩ = some (.int .u16 (q.ty : Nat)) ∧ W.cell? ⟨p0, 2, none⟩ = some (.int .u16 (q.cl : Nat))) → (W'.cell? ⟨x, 2, none⟩ = some (.slice (some ⟨g, 0, none⟩) L.length cv) ∧ W'.cell? ⟨g, j * 5 + 1, none⟩ = some (.string (bytesV f.q.name)) ∧ W'.cell? ⟨g, j * 5 + 2, none⟩ = some (.int .u16 (f.q.ty : Nat)) ∧ W'.cell? ⟨g, j * 5 + 3, none⟩ = some (.int .u16 (f.q.cl : Nat)) ∧ W'.cell? ⟨p0, 0, none⟩ = some (.string nx) ∧ W'.cell? ⟨p0, 1, none⟩ = some (.int .u16 (q.ty : Nat)) ∧ W'.cell? ⟨p0, 2, none⟩ = some (.int .u16 (q.cl : Nat))) := by
        rintro W W' hc ⟨h1, h2, h3, h4, h5, h6, h7⟩
        exact ⟨hc.cell h1 (by simp), hc.cell h2 (by simp), hc.cell h3 (by simp), hc.cell h4 (by simp), hc.cell h5 (by simp), hc.cell h6 (by simp), hc.cell h7 (by simp)⟩
      have HSAME := Lib.hid hsame
      have hjI : (j : Int) < (L.length : Int) := by omega
      clear hsame
      go_region_held3 (fun W => W.cell? ⟨x, 2, none⟩ = some (.slice (some ⟨g, 0, none⟩) L.length cv) ∧ W.cell? ⟨g, j * 5 + 1, none⟩ = some (.string (bytesV f.q.name)) ∧ W.cell? ⟨g, j * 5 + 2, none⟩ = some (.int .u16 (f.q.ty : Nat)) ∧ W.cell? ⟨g, j * 5 + 3, none⟩ = some (.int .u16 (f.q.cl : Nat)) ∧ W.cell? ⟨p0, 0, none⟩ = some (.string nx) ∧ W.cell? ⟨p0, 1, none⟩ = some (.int .u16 (q.ty : Nat)) ∧ W.cell? ⟨p0, 2, none⟩ = some (.int .u16 (q.cl : Nat))) (first | (with_reducible exact S5.out) | exact S0.out) ((go_at_call 53; refine (hcall _).mono ?_; rintro e9 w5 ⟨rfl, hc5⟩; have hc5' := hc5.undrew; have S5 := Lib.hid (HSAME.out wr w5 hc5' S0.out)))
      have hC5 := HC.out.trans hc5'
      have hb5 := hc5'.keep HB0.out (by simp)
      have s0 : w5.cell? ⟨g, j * 5, none⟩ = some (.int .i64 (f.slot : Nat)) := hc5'.cell d0 (by simp)
      have s2 := S5.out.1
      have HC5 := Lib.hid hC5
      have HB5 := Lib.hid hb5
      clear hc5 hc5' hC5 hb5 S0 S5 HC HB0 d0 d1 d2 d3 c2 k0 k1 k2 hcall HSAME
      cases r with
      | true =>
        have h1 := HR.out.symm
        rw [Bool.and_eq_true, decide_eq_true_eq] at h1
        have hfm : f ∈ L := by rw [HF.out]; exact List.getElem_mem hlt
        have hfd := findF_of HOK.out.qs hfm
        rw [h1.2] at hfd
        have ea : a = f.slot := by rw [ha.out]; unfold findAt; rw [h1.1, if_pos rfl, hfd]; rfl
        have eb : b = true := by rw [hb.out]; unfold findIs; rw [h1.1, hfd]; rfl
        subst ea; subst eb
        have hc := HC5.out
        clear ha hb h1 hfd HR hfm
        go_wp2
        go_ret2
        exact ⟨rfl, hc⟩
      | false =>
        clear s0 s2
        go_wp2
        go_roundw
        case rel =>
          refine ⟨j + 1, by omega, by go_num, HB5.out, HC5.out, ?_⟩
          intro y hy
          rw [List.take_succ_eq_append_getElem hlt, ← HF.out] at hy
          rcases List.mem_append.1 hy with e | e
          · exact HNO.out y e
          · simp at e; subst e; exact HR.out.symm
        case measure => simp [intOf] <;> omega
    · obtain rfl : j = L.length := by omega
      have hn := HNO.out
      rw [List.take_of_length_le (Nat.le_refl _)] at hn
      have hfn : findIs L q = false ∧ findAt L q = 0 := by
        unfold findIs findAt
        cases hm : mayB q.name with
        | false => exact ⟨rfl, rfl⟩
        | true =>
          have hno : ∀ f ∈ L, f.q ≠ foldQ q := fun f hf e => by
            have := hn f hf
            rw [hm, e] at this
            simp at this
          rw [findF_none hno]
          exact ⟨rfl, rfl⟩
      have ea : a = 0 := by rw [ha.out]; exact hfn.2
      have eb : b = false := by rw [hb.out]; exact hfn.1
      subst ea; subst eb
      clear ha hb hfn hn HNO hb0
      go_wp2
      go_ret2
      exact ⟨rfl, hC⟩
theorem rrow_any (h : RT G w x n m L) :
    Calls Try.prog 47 #[.pointer (some ⟨x, 0, none⟩)] w fun e w' => ∃ v, e = .returned v ∧ R.OwnR 3 1 sV w.heap.size w' v (slotsF L) ∧ Chg [] w w' := by
  have hlen : L.length ≤ 32 := by have := h.ok.len; have := h.n32; omega
  obtain ⟨v, rs, hT⟩ := h
  obtain ⟨av, cv, hv⟩ : ∃ a c, v = .slice a L.length c := by
    obtain ⟨a, c, e⟩ := hT.row.len
    rw [hT.len] at e
    exact ⟨a, c, e⟩
  subst hv
  have HT := Lib.hid hT
  obtain ⟨i0, z, hi0, hz0, hz1, hz2, hz3⟩ := info_sizes elem_s
  clear hT
  go_enter Try.func47, Try.ntmps47
  go_wp2_with fail
  go_loopw [3, 4] (fun v i wr => ∃ j : Nat, j ≤ L.length ∧ i = .int .i64 (j : Nat) ∧ R.OwnR 3 1 sV w.heap.size wr v (slotsF (L.take j)) ∧ Chg [] w wr) (fun _ i _ => L.length - (intOf i).toNat)
  case atStart => exact ⟨0, Nat.zero_le _, rfl, R.OwnR.nil _ _ _ _ _, Chg.refl _ _⟩
  case round =>
    obtain ⟨j, hj, rfl, hO, hC⟩ := hrel
    have c2 : wr.cell? ⟨x, 2, none⟩ = some (.slice av L.length cv) := cell_of (hC.keep HT.out.head (by simp))
    obtain ⟨va, vc, hva⟩ := hO.len
    have hlj : (slotsF (L.take j)).length = j := by simp [slotsF]; omega
    rw [hlj] at hva
    subst hva
    by_cases hlt : j < L.length
    · obtain ⟨g, c, xa, xc, hv, _, _, d0, _⟩ := (HT.out.chg hC (by simp)).cells hlt
      have hv1 := (Value.slice.inj hv).1
      clear hv
      subst hv1
      obtain ⟨f, hf⟩ : ∃ f, f = L[j] := ⟨_, rfl⟩
      rw [← hf] at d0
      have htk : slotsF (L.take (j + 1)) = slotsF (L.take j) ++ [f.slot] := by rw [List.take_succ_eq_append_getElem hlt, ← hf, slotsF_append]
      have hown : (wr.alloc (.cells #[.int .i64 (f.slot : Nat)] 3)).ownsRow w.heap.size 3 1 (.slice va j vc) j ((slotsF (L.take j)).flatMap sV) := by
        have := hO.same ((Chg.refl [] wr).alloc (.cells #[.int .i64 (f.slot : Nat)] 3))
        unfold R.OwnR at this
        rw [hlj] at this
        exact this
      have HOWN := Lib.hid hown
      have HLO := Lib.hid (fun g hg => (hO.blk g hg).1)
      have HC := Lib.hid hC
      have HSZ := Lib.hid (hC.alloc (.cells #[.int .i64 (f.slot : Nat)] 3)).size
      have HTK := Lib.hid htk
      have HLJ := Lib.hid hlj
      clear hO hC hown hf htk hlj
      go_wp2_with (first
        | (at_builtin; go_must (refine wpList_append_lies _ rfl _ _ 48 rfl w.heap.size 3 i0 z 1 8 Try.underlying48 hi0 hz0 hz1 hz2 hz3 (by omega) _ _ _ rfl HOWN.out ⟨_, 0, none⟩ 1 1 [.int .i64 (f.slot : Nat)] rfl rfl ?_ ?_ (by omega) (by unfold maxLen; omega) (by omega) HSZ.out _ rfl ?_))
        | fail)
      · exact fun j u hu => World.news_of_block (heap_new _ _) j u (by simpa using hu)
      · intro u hu
        simp at hu
        subst hu
        rfl
      · intro g7 c7 w7 ho7 hg7 _ _
        have ho : R.OwnR 3 1 sV w.heap.size w7 (.slice (some ⟨g7, 0, none⟩) (j + 1) c7) (slotsF (L.take (j + 1))) := by
          rw [HTK.out]
          refine R.OwnR.snoc ?_
          rw [HLJ.out]
          exact ho7
        have hc : Chg [] w w7 := R.chg_grown (HC.out.alloc _) hg7 HLO.out
        have HO7 := Lib.hid ho
        have HC7 := Lib.hid hc
        clear ho hc ho7 hg7 c2 d0
        go_wp2
        go_roundw
        case rel => exact ⟨j + 1, by omega, by go_num, HO7.out, HC7.out⟩
        case measure => simp [intOf] <;> omega
    · obtain rfl : j = L.length := by omega
      rw [List.take_of_length_le (Nat.le_refl _)] at hO
      have HO := Lib.hid hO
      clear hO hlj
      go_wp2
      go_ret
      exact ⟨_, rfl, HO.out, hC⟩
end

end Go.Proofs.Ytopkbchjlifflaa
