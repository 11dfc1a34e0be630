/- What the statements about questions under way ask: long, told, Waiters; == of questions and of waiters. -/
import Derived.Test.YtopkbchjlifflaaFlJ
import Derived.Test.YtopkbchjlifflaaActs27
import Derived.Test.YtopkbchjlifflaaInts15
namespace Go.Proofs.Ytopkbchjlifflaa
open Go.RowKit Go.Maps

theorem run_eqQ (w : World) {q r : Qs} (hq : OkQ q) (hr : OkQ r) : (Op.equal 25 (qA q) (qA r)).run Try.prog w = .ok (decide (q = r)) w := by
  obtain ⟨b, h1, h2⟩ := run_equal_deep (P := Try.prog) w (m := 3) (by omega) (by kernel_rfl) (by kernel_rfl) (key_q hq) (key_q hr)
  have hb : b = decide (q = r) := by
    by_cases e : q = r
    · subst e; rw [h2.2 rfl, decide_eq_true rfl]
    · rw [decide_eq_false e]
      cases b with
      | false => rfl
      | true => exact absurd (keyQ_inj hq hr (h2.1 rfl)) e
  rw [h1, hb]
theorem eqlQ (w : World) {q r : Qs} (hq : OkQ q) (hr : OkQ r) : (binOp .eql 25 (.agg #[.string (bytesV q.name), .int .u16 (q.ty : Nat), .int .u16 (q.cl : Nat)]) (.agg #[.string (bytesV r.name), .int .u16 (r.ty : Nat), .int .u16 (r.cl : Nat)])).run Try.prog w = .ok (.bool (decide (q = r))) w := by
  have h := run_eqQ w hq hr
  unfold qA at h
  simp only [binOp, Sem.run_bind, h, Result.andThen_ok, Sem.run_pure]
theorem neqQ (w : World) {q r : Qs} (hq : OkQ q) (hr : OkQ r) : (binOp .neq 25 (.agg #[.string (bytesV q.name), .int .u16 (q.ty : Nat), .int .u16 (q.cl : Nat)]) (.agg #[.string (bytesV r.name), .int .u16 (r.ty : Nat), .int .u16 (r.cl : Nat)])).run Try.prog w = .ok (.bool (!decide (q = r))) w := by
  have h := run_eqQ w hq hr
  unfold qA at h
  simp only [binOp, Sem.run_bind, h, Result.andThen_ok, Sem.run_pure]
/-- A waiter as a key: only so that == of one with itself is known. -/
theorem key_w {x : Wt} (h : OkX x) : keyOf Try.prog 36 (.agg #[.int .i64 x.who, .string (bytesV x.data)]) = some (.string (keyBytes [.int .i64 x.who, .string x.data])) := by
  have k1 : Try.prog.keyType 36 = true := by kernel_rfl
  have c1 : Try.prog.cellsOf 36 = 2 := by kernel_rfl
  have c2 : Try.prog.cellsOf 9 = 1 := by kernel_rfl
  have c3 : Try.prog.cellsOf 3 = 1 := by kernel_rfl
  obtain ⟨n, hn⟩ : ∃ n, n + 2 = Try.prog.types.size + 1 := ⟨Try.prog.types.size - 1, by kernel_rfl⟩
  have e1 : (Value.agg #[.int .i64 x.who, .string (bytesV x.data)]).formed Try.prog 36 = true := by
    simp [Value.formed, Try.underlying36, c1]
  unfold keyOf
  rw [Try.underlying36]
  simp only [k1, e1, Bool.and_self, if_true]
  rw [← hn]
  have hs : (bytesV x.data).size ≤ maxLen := h.data
  have w1 : (Lit.int .i64 x.who).wf = true := WalkArith.wf_i64 (by have := h.who; omega)
  simp [Program.keyLits, Try.underlying36, Try.underlying9, Try.underlying3, c1, c2, c3, Value.cells, hs, w1, bytesV_list]
theorem neqW (w : World) {x : Wt} (h : OkX x) : (binOp .neq 36 (.agg #[.int .i64 x.who, .string (bytesV x.data)]) (.agg #[.int .i64 x.who, .string (bytesV x.data)])).run Try.prog w = .ok (.bool false) w := by
  obtain ⟨b, h1, h2⟩ := run_equal_deep (P := Try.prog) w (m := 3) (by omega) (by kernel_rfl) (by kernel_rfl) (key_w h) (key_w h)
  have hb : b = true := h2.2 rfl
  subst hb
  simp only [binOp, Sem.run_bind, h1, Result.andThen_ok, Sem.run_pure]
  rfl

/-- The slice v reads as the records l. -/
def RdW (w : World) (v : Value) (l : List Wt) : Prop :=
  (l = [] ∧ ∃ a c, v = .slice a 0 c) ∨ ∃ r c, v = .slice (some ⟨r, 0, none⟩) l.length c ∧ ∀ i (h : i < l.length) j u, (wV l[i])[j]? = some u → w.cell? ⟨r, i * 2 + j, none⟩ = some u
theorem RdW.slice {w : World} {v : Value} {l : List Wt} (h : RdW w v l) : ∃ a c, v = .slice a l.length c := by
  rcases h with ⟨rfl, a, c, rfl⟩ | ⟨r, c, rfl, _⟩
  · exact ⟨a, c, rfl⟩
  · exact ⟨_, _, rfl⟩
theorem RdW.chg {w w' : World} {v : Value} {l : List Wt} (h : RdW w v l) (hc : Chg [] w w') : RdW w' v l := by
  rcases h with h | ⟨r, c, h1, h2⟩
  · exact .inl h
  · exact .inr ⟨r, c, h1, fun i hi j u hu => hc.cell (h2 i hi j u hu) (by simp)⟩
theorem rdW_own {t : TypeId} {base : Nat} {w : World} {v : Value} {l : List Wt} (h : R.OwnR t 2 wV base w v l) : RdW w v l := by
  by_cases h0 : 0 < l.length
  · obtain ⟨g, c, e, _, _, hx⟩ := h.cells wV_len h0
    exact .inr ⟨g, c, e, hx⟩
  · have : l = [] := List.length_eq_zero_iff.1 (by omega)
    subst this
    obtain ⟨a, c, e⟩ := h.len
    exact .inl ⟨rfl, a, c, e⟩
theorem row_own {base : Nat} {w : World} {v : Value} {l : List Nat} (h : R.OwnR 3 1 sV base w v l) : Row .i64 w v l := by
  by_cases h0 : 0 < l.length
  · obtain ⟨g, c, e, _, _, hx⟩ := h.cells sV_len h0
    refine .inr ⟨g, c, e, fun i hi => ?_⟩
    have := hx i hi 0 (.int .i64 (l[i] : Nat)) rfl
    rw [Nat.mul_one, Nat.add_zero] at this
    exact this
  · have : l = [] := List.length_eq_zero_iff.1 (by omega)
    subst this
    obtain ⟨a, c, e⟩ := h.len
    exact .inl ⟨rfl, a, c, e⟩
def WsR (l : List Wt) (w : World) (i : Value) (wr : World) : Prop := ∃ j : Nat, j ≤ l.length ∧ i = .int .i64 (j : Nat) ∧ Chg [] w wr
theorem waiters_same (v1 v2 : Value) (l : List Wt) (w : World) (h1 : RdW w v1 l) (h2 : RdW w v2 l) (hok : ∀ x ∈ l, OkX x) (hl : l.length ≤ 1000000) :
    Calls Try.prog 16 #[v1, v2] w fun e w' => e = .returned (.bool true) ∧ Chg [] w w' := by
  by_cases hnil : l = []
  · subst hnil
    obtain ⟨a1, c1, rfl⟩ := h1.slice
    obtain ⟨a2, c2, rfl⟩ := h2.slice
    clear h1 h2
    simp only [List.length_nil]
    go_enter Try.func16, Try.ntmps16
    go_wp2
    go_loop [5] (fun i => i = .int .i64 0) (fun _ => 0)
    case atStart => rfl
    case round =>
      subst hrel
      go_wp2
      go_ret
      exact ⟨rfl, Chg.refl _ _⟩
  · rcases h1 with ⟨h, _⟩ | ⟨r1, c1, rfl, hc1⟩
    · exact absurd h hnil
    rcases h2 with ⟨h, _⟩ | ⟨r2, c2, rfl, hc2⟩
    · exact absurd h hnil
    have HC1 := Lib.hid hc1
    have HC2 := Lib.hid hc2
    have HOK := Lib.hid hok
    obtain ⟨n, hn⟩ : ∃ n, n = l.length := ⟨_, rfl⟩
    rw [← hn] at hl ⊢
    have HN := Lib.hid hn
    clear hc1 hc2 hnil hok hn
    go_enter Try.func16, Try.ntmps16
    go_wp2
    go_loopw [5] (WsR l w) (fun i _ => n - (intOf i).toNat)
    case atStart => exact ⟨0, Nat.zero_le _, rfl, Chg.refl _ _⟩
    case round =>
      obtain ⟨j, hj, rfl, hck⟩ := hrel
      rw [← HN.out] at hj
      by_cases hlt : j < n
      · have hjl : j < l.length := by rw [← HN.out]; exact hlt
        obtain ⟨x, hx⟩ : ∃ x, x = l[j] := ⟨_, rfl⟩
        have hokx : OkX x := by rw [hx]; exact HOK.out _ (List.getElem_mem hjl)
        have d0 := hck.cell (HC1.out j hjl 0 (.int .i64 x.who) (by rw [← hx]; rfl)) (by simp)
        have d1 := hck.cell (HC1.out j hjl 1 (.string (bytesV x.data)) (by rw [← hx]; rfl)) (by simp)
        have f0 := hck.cell (HC2.out j hjl 0 (.int .i64 x.who) (by rw [← hx]; rfl)) (by simp)
        have f1 := hck.cell (HC2.out j hjl 1 (.string (bytesV x.data)) (by rw [← hx]; rfl)) (by simp)
        rw [Nat.add_zero] at d0 f0
        have hneq := fun w => neqW w hokx
        clear hx hokx
        go_wp2_with fail
        go_quiet (fail)
        go_wp2
        go_roundw
        case rel => first | exact ⟨j + 1, by rw [← HN.out]; omega, by go_num, hck.drewN _⟩ | ((repeat apply Exists.intro); exact ⟨⟨j + 1, by rw [← HN.out]; omega, by go_num, hck.drewN _⟩, rfl⟩)
        case measure => simp [intOf] <;> omega
      · obtain rfl : j = n := by omega
        go_wp2
        go_ret
        exact ⟨rfl, hck⟩

def LongR (m : Nat) (v i : Value) : Prop := ∃ j n : Nat, j ≤ m ∧ i = .int .i64 (j : Nat) ∧ v = .int .i64 (n : Nat) ∧ n ≤ 100000
theorem long_any (a : Option Addr) (cap : Nat) (acts : List ActT) (w : World) (h : IsActs w a acts) :
    Calls Try.prog 9 #[.slice a acts.length cap] w fun e w' => ∃ b, e = .returned (.bool b) ∧ Chg [] w w' := by
  have hmax := h.1
  unfold maxLen at hmax
  have H := Lib.hid h.2
  clear h
  go_enter Try.func9, Try.ntmps9
  go_wp2_with fail
  go_loopw [3, 4] (fun v i wr => LongR acts.length v i ∧ Chg [] w wr) (fun _ i _ => acts.length - (intOf i).toNat)
  case atStart => exact ⟨⟨0, 0, Nat.zero_le _, rfl, rfl, by omega⟩, Chg.refl _ _⟩
  case round =>
    obtain ⟨⟨j, n, hj, rfl, rfl, hn⟩, hck⟩ := hrel
    have HN := Lib.hid hn
    clear hn
    by_cases hlt : j < acts.length
    · by_cases hn8 : n < 8000
      · have t1 : decide ((n : Int) < 8000) = true := by simp; omega
        have t1n : decide (n < 8000) = true := by simpa using hn8
        have HN8 := Lib.hid hn8
        clear hn8
        obtain ⟨b, o, ha, _, hc, hok⟩ := H.out j hlt
        subst ha
        have d1 := hck.cell (hc 1 _ rfl) (by simp)
        have d6 := hck.cell (hc 6 _ rfl) (by simp)
        obtain ⟨s1, hs1⟩ : ∃ s1, s1 = bytesV acts[j].q.name := ⟨_, rfl⟩
        obtain ⟨s2, hs2⟩ : ∃ s2, s2 = bytesV acts[j].x.data := ⟨_, rfl⟩
        have l1 : s1.size ≤ maxLen := by rw [hs1]; exact hok.q.name
        have l2 : s2.size ≤ maxLen := by rw [hs2]; exact hok.x.data
        unfold maxLen at l1 l2
        rw [← hs1] at d1
        rw [← hs2] at d6
        rw [← Nat.add_assoc] at d1 d6
        clear hs1 hs2 hc hok
        go_wp2_with fail
        go_quiet (fail)
        go_wp2
        have hn8 := HN8.out
        have e1 : wrap64 ((n : Int) + 20) = (n : Int) + 20 := IntWalk.wrap64_in _ (by omega)
        have e2 : wrap64 ((n : Int) + 20 + min 8000 (s1.size : Int)) = (n : Int) + 20 + min 8000 (s1.size : Int) := IntWalk.wrap64_in _ (by omega)
        have e3 : wrap64 ((n : Int) + 20 + min 8000 (s1.size : Int) + min 8000 (s2.size : Int) / 10) = (n : Int) + 20 + min 8000 (s1.size : Int) + min 8000 (s2.size : Int) / 10 := IntWalk.wrap64_in _ (by omega)
        rw [e1, e2, e3]
        refine ⟨⟨⟨j + 1, n + 20 + min 8000 s1.size + min 8000 s2.size / 10, by omega, by go_num, ?_, by omega⟩, hck.drewN _⟩, by simp [intOf]; omega⟩
        exact congrArg (Value.int .i64) (by omega)
      · have t1 : decide ((n : Int) < 8000) = false := by simp; omega
        have t1n : decide (n < 8000) = false := by simpa using hn8
        have HN8 := Lib.hid hn8
        clear hn8
        go_wp2
        go_ret
        exact ⟨_, rfl, hck⟩
    · have t0 : decide (j < acts.length) = false := by simpa using hlt
      go_wp2
      go_ret
      exact ⟨_, rfl, hck⟩

/-- The tables' waiters, told as the document's; what is told is written over. -/
structure ToldR (l : List Wt) (g : Nat) (w : World) (j : Nat) (v : Value) (wr : World) : Prop where
  out : R.OwnR 36 2 wV w.heap.size wr v (l.take j)
  blk : ∃ c, wr.heap[g]? = some (.cells c 38 (0, 0)) ∧ l.length * 2 ≤ c.size ∧ ∀ i (h : i < l.length), j ≤ i → ∀ k u, (wV l[i])[k]? = some u → c[i * 2 + k]? = some u
  chg : Chg [g] w wr
theorem Try.elemRW : (Try.prog.info? 36).map (fun i => (i.zero.map fun z => z.cells.size, i.size, i.bytes)) = some (some 2, 2, 24) := by kernel_rfl
theorem toldR_step {l : List Wt} {g j : Nat} {w wr w8 w9 : World} {v v9 : Value} (h : ToldR l g w j v wr) (hj : j < l.length) (hgw : g < w.heap.size) (c8 : Chg [] wr w8) (hg : w8.grownBy w9 v.ownBlock) (ho : w9.ownsRow w.heap.size 36 2 v9 (j + 1) ((l.take j).flatMap wV ++ wV l[j])) :
    ToldR l g w (j + 1) v9 ((w9.setCell ⟨g, j * 2, none⟩ (.int .i64 (-1))).setCell ⟨g, j * 2 + 1, none⟩ (.string ⟨#[]⟩)) := by
  obtain ⟨c, k1, k2, k3⟩ := h.blk
  have hne : ∀ k, v.ownBlock = some k → w.heap.size ≤ k := fun k hk => (h.out.blk k hk).1
  have b9 : w9.heap[g]? = some (.cells c 38 (0, 0)) := by
    rw [hg.block g (by have := lt_of_block (c8.keep k1 (by simp)); exact this) (fun e => by have := hne g e.symm; omega)]
    exact c8.keep k1 (by simp)
  have hc9 : Chg [g] w w9 := (h.chg.trans (c8.mono (by simp))).grown hg (fun k hk => .inr (hne k hk))
  have hset : Chg [g] w9 ((w9.setCell ⟨g, j * 2, none⟩ (.int .i64 (-1))).setCell ⟨g, j * 2 + 1, none⟩ (.string ⟨#[]⟩)) := ((Chg.refl _ _).setCell (.inl (by simp)) _).setCell (.inl (by simp)) _
  refine ⟨?_, ⟨_, heap_set (heap_set b9 _) _, by simpa using k2, ?_⟩, hc9.trans hset⟩
  · have e1 : l.take (j + 1) = l.take j ++ [l[j]] := by rw [List.take_succ_eq_append_getElem hj]
    rw [e1]
    have hl : (l.take j).length = j := by simp; omega
    have ho' : w9.ownsRow w.heap.size 36 2 v9 ((l.take j).length + 1) ((l.take j).flatMap wV ++ wV l[j]) := by rw [hl]; exact ho
    have h9 : R.OwnR 36 2 wV w.heap.size w9 v9 (l.take j ++ [l[j]]) := R.OwnR.snoc ho'
    refine h9.chg hset fun k hk => ?_
    have := (h9.blk k hk).1
    simp; omega
  · intro i hi hji k u hu
    have hk2 : k < 2 := by
      rcases Nat.lt_or_ge k 2 with hh | hh
      · exact hh
      · rw [List.getElem?_eq_none (by rw [wV_len]; exact hh)] at hu; cases hu
    rw [Array.getElem?_setIfInBounds_ne (by omega), Array.getElem?_setIfInBounds_ne (by omega)]
    exact k3 i hi (by omega) k u hu
theorem told_any (base : Nat) (v : Value) (l : List Wt) (w : World) (h : R.OwnR 38 2 wV base w v l) (hl : l.length ≤ 1000) :
    Calls Try.prog 17 #[v] w fun e w' => ∃ v', e = .returned v' ∧ R.OwnR 36 2 wV w.heap.size w' v' l ∧ Chg (blkL v) w w' := by
  by_cases hnil : l = []
  · subst hnil
    obtain ⟨a, c, rfl⟩ := h.len
    clear h
    simp only [List.length_nil]
    go_enter Try.func17, Try.ntmps17
    go_wp2_with fail
    go_loop [3, 4] (fun v i => v = .slice none 0 0 ∧ i = .int .i64 0) (fun _ _ => 0)
    case atStart => exact ⟨rfl, rfl⟩
    case round =>
      obtain ⟨rfl, rfl⟩ := hrel
      go_wp2
      go_ret
      exact ⟨_, rfl, R.OwnR.nil _ _ _ _ _, Chg.refl _ _⟩
  · obtain ⟨h1, h2⟩ := h
    rcases h2 with ⟨_, h0⟩ | ⟨g, cap, cur, rfl, hb, hg, hle, _, hs, ht⟩
    · exact absurd (List.length_eq_zero_iff.1 h0) hnil
    · go_enter Try.func17, Try.ntmps17
      have hgw : g < w.heap.size := lt_of_block hg
      have hst : ToldR l g w 0 (.slice none 0 0) w := by
        refine ⟨R.OwnR.nil _ _ _ _ _, ⟨cur, hg, by rw [hs]; exact Nat.mul_le_mul_right _ hle, ?_⟩, Chg.refl _ _⟩
        intro i hi _ k u hu
        have hk2 : k < 2 := by
          rcases Nat.lt_or_ge k 2 with hh | hh
          · exact hh
          · rw [List.getElem?_eq_none (by rw [wV_len]; exact hh)] at hu; cases hu
        have e : cur.toList[i * 2 + k]? = (cur.toList.take (l.length * 2))[i * 2 + k]? := by rw [List.getElem?_take_of_lt (by omega)]
        rw [← Array.getElem?_toList, e, ht, R.flat_get wV 2 wV_len l i hi k hk2]
        exact hu
      have HST := Lib.hid hst
      obtain ⟨i0, z, hi0, hz0, hz1, hz2, hz3⟩ := info_sizes Try.elemRW
      clear hst h1 hg hs ht hle hnil
      go_wp2_with fail
      go_loopw [3, 4] (fun v i wr => ∃ j : Nat, j ≤ l.length ∧ i = .int .i64 (j : Nat) ∧ ToldR l g w j v wr) (fun _ i _ => l.length - (intOf i).toNat)
      case atStart => exact ⟨0, Nat.zero_le _, rfl, HST.out⟩
      case round =>
        clear HST
        obtain ⟨j, hj, rfl, hR⟩ := hrel
        by_cases hlt : j < l.length
        · obtain ⟨x, hx⟩ : ∃ x, x = l[j] := ⟨_, rfl⟩
          obtain ⟨c, k1, k2, k3⟩ := hR.blk
          have d0 : wr.cell? ⟨g, j * 2, none⟩ = some (.int .i64 x.who) := by rw [cell_of k1]; exact k3 j hlt (Nat.le_refl _) 0 _ (by rw [← hx]; rfl)
          have d1 : wr.cell? ⟨g, j * 2 + 1, none⟩ = some (.string (bytesV x.data)) := by rw [cell_of k1]; exact k3 j hlt (Nat.le_refl _) 1 _ (by rw [← hx]; rfl)
          have f0 : ∀ i, wr.frozen? ⟨g, i, none⟩ = false := fun i => free_of k1
          have hlj : (l.take j).length = j := by simp; omega
          obtain ⟨va, vc, hva⟩ := hR.out.len
          rw [hlj] at hva
          subst hva
          have hown : wr.ownsRow w.heap.size 36 2 (.slice va j vc) j ((l.take j).flatMap wV) := by
            have := hR.out
            unfold R.OwnR at this
            rw [hlj] at this
            exact this
          have hgrl := lt_of_block k1
          have hsz := hR.chg.size
          have hnw : ∀ w9, (wr.alloc (.cells #[.int .i64 x.who, .string (bytesV x.data)] 36)).grownBy w9 (Value.slice va j vc).ownBlock → w9.cell? ⟨g, j * 2, none⟩ = some (.int .i64 x.who) ∧ w9.cell? ⟨g, j * 2 + 1, none⟩ = some (.string (bytesV x.data)) ∧ ∀ i, w9.frozen? ⟨g, i, none⟩ = false := by
            intro w9 hg9
            have hne : some g ≠ (Value.slice va j vc).ownBlock := fun e => by have := (hR.out.blk g e.symm).1; omega
            have hb9 : w9.heap[g]? = wr.heap[g]? := (hg9.block g (by have := ((Chg.refl [] wr).alloc (.cells #[.int .i64 x.who, .string (bytesV x.data)] 36)).size; omega) hne).trans (Below.heap_alloc _ _ _ hgrl)
            refine ⟨?_, ?_, fun i => ?_⟩
            · rw [World.cell?_of_block (w := wr) hb9]; exact d0
            · rw [World.cell?_of_block (w := wr) hb9]; exact d1
            · rw [World.frozen?_of_block (w := wr) hb9]; exact f0 i
          have hstep : ∀ v9 w9, (wr.alloc (.cells #[.int .i64 x.who, .string (bytesV x.data)] 36)).grownBy w9 (Value.slice va j vc).ownBlock → w9.ownsRow w.heap.size 36 2 v9 (j + 1) ((l.take j).flatMap wV ++ wV x) → ToldR l g w (j + 1) v9 ((w9.setCell ⟨g, j * 2, none⟩ (.int .i64 (-1))).setCell ⟨g, j * 2 + 1, none⟩ (.string ⟨#[]⟩)) := by
            intro v9 w9 hg9 ho9
            rw [hx] at ho9
            exact toldR_step hR hlt hgw ((Chg.refl [] wr).alloc _) hg9 ho9
          have hone : ∀ u ∈ [Value.int .i64 x.who, .string (bytesV x.data)], u.oneCell' = true := by
            intro u hu
            simp at hu
            rcases hu with rfl | rfl <;> rfl
          have HOWN := Lib.hid hown
          have HNW := Lib.hid hnw
          have HSTEP := Lib.hid hstep
          have HONE := Lib.hid hone
          have hb1 : j + 1 ≤ maxLen := by unfold maxLen; omega
          have HB1 := Lib.hid hb1
          clear hR k1 k2 k3 hx hown hnw hstep hone hb1 hlj
          go_wp2_with (first
            | (at_builtin; go_must (refine wpList_append_own _ rfl _ _ 26 rfl w.heap.size 36 i0 z 2 24 Try.underlying26 hi0 hz0 hz1 hz2 hz3 (by omega) _ _ _ rfl (HOWN.out.alloc _) ⟨_, 0, none⟩ 1 1 [.int .i64 x.who, .string (bytesV x.data)] rfl rfl ?_ HONE.out HB1.out (by omega) (by simp; omega) ?_))
            | go_in)
          · exact fun j u hu => World.news_of_block (heap_new _ _) j u (by simpa using hu)
          · intro v9 w9 ho9 hg9 _
            obtain ⟨q0, q1, q2⟩ := HNW.out w9 hg9
            obtain ⟨xa, xc, rfl⟩ : ∃ a c, v9 = .slice a (j + 1) c := by
              obtain ⟨_, ho9⟩ := ho9
              rcases ho9 with ⟨_, h0⟩ | ⟨g9, cap9, cur9, rfl, _⟩
              · omega
              · exact ⟨_, _, rfl⟩
            have S9 := HSTEP.out _ w9 hg9 ho9
            have HS9 := Lib.hid S9
            clear S9 ho9 hg9
            go_wp2
            go_roundw
            case rel => exact ⟨j + 1, by omega, by go_num, HS9.out⟩
            case measure => simp [intOf] <;> omega
        · obtain rfl : j = l.length := by omega
          have ho := hR.out
          rw [List.take_of_length_le (Nat.le_refl _)] at ho
          have hc := hR.chg
          have HO := Lib.hid ho
          clear hR ho
          go_wp2
          go_ret
          exact ⟨_, rfl, HO.out, hc.mono (fun k hk => by simp at hk; subst hk; exact mem_blkL.2 rfl)⟩

end Go.Proofs.Ytopkbchjlifflaa
