/- The verdicts, acts and questions that came in. -/
import Derived.Test.YtgdnfempcjlipaaActs16
import Derived.Test.YtgdnfempcjlipaaCacX
namespace Go.Proofs.Ytgdnfempcjlipaa
open Go.ChangeShapes Go.WideShapes Go.Deep Go.RowKit

/-- A set that came in, with the value of its row of data. -/
structure RawSet (w : World) (x : SetP × Value) : Prop where
  nm : x.1.nm.size ≤ maxLen
  ty : x.1.ty < 65536
  cl : x.1.cl < 65536
  ttl : x.1.ttl < 4294967296
  len : x.1.data.length ≤ maxLen
  rd : RdR strV w x.2 x.1.data
  str : ∀ s ∈ x.1.data, s.size ≤ maxLen
/-- Sets that came in. -/
def RawSets (w : World) (v : Value) (l : List SetP) : Prop :=
  l.length ≤ maxLen ∧ ∃ ds : List (SetP × Value), ds.map (·.1) = l ∧ RdR setV w v ds ∧ ∀ x ∈ ds, RawSet w x
structure RawV (w : World) (sv ov : Value) (v : Ver) : Prop where
  lt : v.code < 256
  sets : RawSets w sv v.sets
  soa : RawSets w ov v.soa
theorem RawSets.same {w w' : World} {v : Value} {l : List SetP} (h : RawSets w v l) (hc : Chg [] w w') : RawSets w' v l := by
  obtain ⟨h0, ds, h1, h2, h3⟩ := h
  exact ⟨h0, ds, h1, h2.same hc, fun x hx => ⟨(h3 x hx).nm, (h3 x hx).ty, (h3 x hx).cl, (h3 x hx).ttl, (h3 x hx).len, (h3 x hx).rd.same hc, (h3 x hx).str⟩⟩
theorem RawV.same {w w' : World} {sv ov : Value} {v : Ver} (h : RawV w sv ov v) (hc : Chg [] w w') : RawV w' sv ov v := ⟨h.lt, h.sets.same hc, h.soa.same hc⟩
/-- Not too long. -/
def OkL (l : List SetP) : Prop := l.length ≤ 1000 ∧ ∀ x ∈ l, x.data.length ≤ 1000
def OkVer (v : Ver) : Prop := OkL v.sets ∧ OkL v.soa
theorem RawSets.rd {w : World} {v : Value} {l : List SetP} (h : RawSets w v l) (hl : OkL l) : RdSets w v l := by
  obtain ⟨h0, ds, h1, h2, h3⟩ := h
  refine ⟨hl.1, ds, h1, h2, fun x hx => ⟨⟨(h3 x hx).ty, (h3 x hx).cl, (h3 x hx).ttl, hl.2 x.1 ?_⟩, (h3 x hx).rd⟩⟩
  rw [← h1]
  exact List.mem_map.2 ⟨x, hx, rfl⟩
theorem RawV.rd {w : World} {sv ov : Value} {v : Ver} (h : RawV w sv ov v) (hl : OkVer v) : RdV w (v.code : Nat) sv ov v := ⟨rfl, h.lt, h.sets.rd hl.1, h.soa.rd hl.2⟩

section
variable {H : Type} {enc : TypeId × Value → H} {w : World} {base : Nat} {spare : Nat → Bool} {held : Bool}
theorem nat_u32 {n : Int} (h : (Lit.int .u32 n).wf = true) : 0 ≤ n ∧ n < 4294967296 := by
  simp [Lit.wf, IntKind.min, IntKind.max, IntKind.signed, IntKind.bits] at h
  omega
theorem strs_cells {n : Nat} {c : Value} {y : DataW H × List MemPlace} (h : DataW.trod enc Try.prog w base spare held n 81 [c] = some y) : ∃ l : List ByteArray, l.length ≤ maxLen ∧ RdR strV w c l ∧ ∀ s ∈ l, s.size ≤ maxLen := by
  rcases open_strings Try.underlying81 Try.underlying9 (by kernel_rfl) h with ⟨hcs, _⟩ | ⟨x, len, cap, ss, hcs, _, hl, hm, hz, _, hcell, hwz⟩
  · simp at hcs
    subst hcs
    exact ⟨[], Nat.zero_le _, ⟨none, 0, rfl, fun _ => rfl, by simp, by simp⟩, by simp⟩
  · simp at hcs
    subst hcs
    have hlen : len ≤ ss.length := by rw [hz]; split <;> omega
    have hl2 : (ss.take len).length = len := by simp; omega
    refine ⟨ss.take len, by omega, ⟨some x, cap, by rw [hl2], by simp, by simp, ?_⟩, fun s hs => hwz s (List.mem_of_mem_take hs)⟩
    intro p hp j u hu
    cases hp
    have hj : j < (ss.take len).length := by
      rcases Nat.lt_or_ge j (ss.take len).length with hh | hh
      · exact hh
      · rw [List.getElem?_eq_none (by rw [R.flat_len strV 1 strV_len]; omega)] at hu; cases hu
    have e := R.flat_get strV 1 strV_len (ss.take len) j hj 0 (by omega)
    rw [Nat.mul_one, Nat.add_zero] at e
    rw [e] at hu
    have hj2 : j < ss.length := by omega
    rw [hcell j hj2]
    simp [strV] at hu
    rw [← hu]
    simp [hj2]
theorem set_cells {n : Nat} {cs : List Value} {y : DataW H × List MemPlace} (hl : cs.length = 5) (h : DataW.trod enc Try.prog w base spare held n 84 cs = some y) : ∃ x : SetP × Value, RawSet w x ∧ cs = setV x := by
  obtain ⟨c0, c1, c2, c3, c4, rfl⟩ : ∃ c0 c1 c2 c3 c4, cs = [c0, c1, c2, c3, c4] := by
    match cs, hl with
    | [c0, c1, c2, c3, c4], _ => exact ⟨c0, c1, c2, c3, c4, rfl⟩
  obtain ⟨fs, hfs, hz, f0, f1, f2, f3, f4, a0, a1, a2, a3, a4, b0, b1, b2, b3, b4, o0, o1, o2, o3, o4⟩ : ∃ fs, Try.prog.underlying 84 = some (.struct fs) ∧ fs.size = 5 ∧ ∃ f0 f1 f2 f3 f4, fs[0]? = some f0 ∧ fs[1]? = some f1 ∧ fs[2]? = some f2 ∧ fs[3]? = some f3 ∧ fs[4]? = some f4 ∧ f0.type = 9 ∧ f1.type = 22 ∧ f2.type = 22 ∧ f3.type = 82 ∧ f4.type = 81 ∧ f0.offset = 0 ∧ f1.offset = 1 ∧ f2.offset = 2 ∧ f3.offset = 3 ∧ f4.offset = 4 :=
    ⟨_, Try.underlying84, rfl, _, _, _, _, _, rfl, rfl, rfl, rfl, rfl, rfl, rfl, rfl, rfl, rfl, rfl, rfl, rfl, rfl, rfl⟩
  obtain ⟨ys, n', _, _, _, hl, hg⟩ := DataW.trod_struct hfs h
  have k0 : Try.prog.cellsOf 9 = 1 := by kernel_rfl
  have k1 : Try.prog.cellsOf 22 = 1 := by kernel_rfl
  have k3 : Try.prog.cellsOf 82 = 1 := by kernel_rfl
  have k4 : Try.prog.cellsOf 81 = 1 := by kernel_rfl
  have hl3 : ys.length = 5 := hl.trans hz
  have g0 := hg 0 f0 a0
  have g1 := hg 1 f1 a1
  have g2 := hg 2 f2 a2
  have g3 := hg 3 f3 a3
  have g4 := hg 4 f4 a4
  rw [b0, o0, k0, List.getElem?_eq_getElem (by omega)] at g0
  rw [b1, o1, k1, List.getElem?_eq_getElem (by omega)] at g1
  rw [b2, o2, k1, List.getElem?_eq_getElem (by omega)] at g2
  rw [b3, o3, k3, List.getElem?_eq_getElem (by omega)] at g3
  rw [b4, o4, k4, List.getElem?_eq_getElem (by omega)] at g4
  obtain ⟨s, e0, _, ws⟩ := DataW.trod_string Try.underlying9 (cs := [c0]) g0
  obtain ⟨a, e1, _, wa⟩ := DataW.trod_int Try.underlying22 (cs := [c1]) g1
  obtain ⟨b, e2, _, wb⟩ := DataW.trod_int Try.underlying22 (cs := [c2]) g2
  obtain ⟨c, e3, _, wc⟩ := DataW.trod_int Try.underlying82 (cs := [c3]) g3
  obtain ⟨l, hll, hrd, hst⟩ := strs_cells (c := c4) g4
  have ha := nat_u16 wa
  have hb := nat_u16 wb
  have hc := nat_u32 wc
  simp at e0 e1 e2 e3
  refine ⟨(⟨s, a.toNat, b.toNat, c.toNat, l⟩, c4), ⟨ws, by show a.toNat < 65536; omega, by show b.toNat < 65536; omega, by show c.toNat < 4294967296; omega, hll, hrd, hst⟩, ?_⟩
  show [c0, c1, c2, c3, c4] = [.string s, .int .u16 ((a.toNat : Nat) : Int), .int .u16 ((b.toNat : Nat) : Int), .int .u32 ((c.toNat : Nat) : Int), c4]
  rw [Int.toNat_of_nonneg ha.1, Int.toNat_of_nonneg hb.1, Int.toNat_of_nonneg hc.1, e0, e1, e2, e3]
theorem sets_cells {n : Nat} {c : Value} {y : DataW H × List MemPlace} (h : DataW.trod enc Try.prog w base spare held n 32 [c] = some y) : ∃ l : List SetP, RawSets w c l := by
  rcases open_slice Try.underlying32 h with ⟨hcs, _⟩ | ⟨x, len, cap, m, n', D, Pl, hcs, _, hl, hm, hmm, _, hx⟩
  · simp at hcs
    subst hcs
    exact ⟨[], Nat.zero_le _, [], rfl, ⟨none, 0, rfl, fun _ => rfl, by simp, by simp⟩, by simp⟩
  · simp at hcs
    subst hcs
    have k5 : Try.prog.cellsOf 84 = 5 := by kernel_rfl
    have key : ∀ i, i < len → ∃ z : SetP × Value, RawSet w z ∧ ∀ k u, (setV z)[k]? = some u → w.cell? (x.add (i * 5 + k)) = some u := by
      intro i hi
      have him : i < m := by rw [hmm]; split <;> omega
      obtain ⟨cs, hc, htr⟩ := hx i him
      obtain ⟨hln, hcl, hat⟩ := World.cells?_some hc
      rw [k5] at hc hat
      have hlc : cs.length = 5 := by
        obtain ⟨ys, n', _, _, hlen, _, hg⟩ := DataW.trod_struct Try.underlying84 htr
        rw [hlen, k5]
      obtain ⟨z, hz, rfl⟩ := set_cells hlc htr
      refine ⟨z, hz, fun k u hu => ?_⟩
      have hk : k < 5 := by
        rcases Nat.lt_or_ge k 5 with hh | hh
        · exact hh
        · rw [List.getElem?_eq_none (by rw [setV_len]; exact hh)] at hu; cases hu
      have h2 := hat k hk
      rw [hu, Go.Deep.add_add] at h2
      exact h2
    obtain ⟨ds, hdl, hds⟩ := list_of key
    refine ⟨ds.map (·.1), by rw [List.length_map]; omega, ds, rfl, ⟨some x, cap, by rw [hdl], by simp, by simp, ?_⟩, fun z hz => ?_⟩
    · intro p hp j u hu
      cases hp
      have hj : j < ds.length * 5 := by
        rcases Nat.lt_or_ge j (ds.length * 5) with hh | hh
        · exact hh
        · rw [List.getElem?_eq_none (by rw [R.flat_len setV 5 setV_len]; omega)] at hu; cases hu
      have hq : j / 5 < ds.length := by omega
      have e := R.flat_get setV 5 setV_len ds (j / 5) hq (j % 5) (Nat.mod_lt _ (by omega))
      have e2 : j / 5 * 5 + j % 5 = j := by omega
      rw [e2] at e
      rw [e] at hu
      have := (hds (j / 5) hq).2 (j % 5) u hu
      rw [e2] at this
      exact this
    · obtain ⟨i, hi, rfl⟩ := List.getElem_of_mem hz
      exact (hds i hi).1
theorem ver_cells {n : Nat} {c0 c1 c2 : Value} {y : DataW H × List MemPlace} (h : DataW.trod enc Try.prog w base spare held n 34 [c0, c1, c2] = some y) : ∃ v : Ver, RawV w c1 c2 v ∧ c0 = .int .u8 (v.code : Nat) := by
  obtain ⟨fs, hfs, hz, f0, f1, f2, a0, a1, a2, b0, b1, b2, o0, o1, o2⟩ : ∃ fs, Try.prog.underlying 34 = some (.struct fs) ∧ fs.size = 3 ∧ ∃ f0 f1 f2, fs[0]? = some f0 ∧ fs[1]? = some f1 ∧ fs[2]? = some f2 ∧ f0.type = 5 ∧ f1.type = 32 ∧ f2.type = 32 ∧ f0.offset = 0 ∧ f1.offset = 1 ∧ f2.offset = 2 :=
    ⟨_, Try.underlying34, rfl, _, _, _, rfl, rfl, rfl, rfl, rfl, rfl, rfl, rfl, rfl⟩
  obtain ⟨ys, n', _, _, _, hl, hg⟩ := DataW.trod_struct hfs h
  have k0 : Try.prog.cellsOf 5 = 1 := by kernel_rfl
  have k1 : Try.prog.cellsOf 32 = 1 := by kernel_rfl
  have hl3 : ys.length = 3 := hl.trans hz
  have g0 := hg 0 f0 a0
  have g1 := hg 1 f1 a1
  have g2 := hg 2 f2 a2
  rw [b0, o0, k0, List.getElem?_eq_getElem (by omega)] at g0
  rw [b1, o1, k1, List.getElem?_eq_getElem (by omega)] at g1
  rw [b2, o2, k1, List.getElem?_eq_getElem (by omega)] at g2
  obtain ⟨a, e0, _, wa⟩ := DataW.trod_int Try.underlying5 (cs := [c0]) g0
  obtain ⟨l1, h1⟩ := sets_cells (c := c1) g1
  obtain ⟨l2, h2⟩ := sets_cells (c := c2) g2
  have ha := nat_u8 wa
  simp at e0
  refine ⟨⟨a.toNat, l1, l2⟩, ⟨by show a.toNat < 256; omega, h1, h2⟩, ?_⟩
  show c0 = .int .u8 ((a.toNat : Nat) : Int)
  rw [Int.toNat_of_nonneg ha.1, e0]

structure ActT where
  k : Nat
  q : Qn
  v : Ver
  life : Int
  now : Int
  sv : Value
  ov : Value
def actV (a : ActT) : List Value := [.int .u8 (a.k : Nat), .string a.q.nm, .int .u16 (a.q.ty : Nat), .int .u16 (a.q.cl : Nat), .int .u8 (a.v.code : Nat), a.sv, a.ov, .int .i64 a.life, .int .i64 a.now]
structure OkA (w : World) (a : ActT) : Prop where
  k : a.k < 256
  q : OkQ a.q
  v : RawV w a.sv a.ov a.v
  life : -9223372036854775808 ≤ a.life ∧ a.life ≤ 9223372036854775807
  now : -9223372036854775808 ≤ a.now ∧ a.now ≤ 9223372036854775807
/-- A slice of acts, as a list. -/
def IsActs (w : World) (a : Option Addr) (acts : List ActT) : Prop :=
  acts.length ≤ maxLen ∧ ∀ i (h : i < acts.length), ∃ b o, a = some ⟨b, o, none⟩ ∧ b < w.heap.size ∧ (∀ j u, (actV acts[i])[j]? = some u → w.cell? ⟨b, o + (i * 9 + j), none⟩ = some u) ∧ OkA w acts[i]
theorem IsActs.chg {w w' : World} {a : Option Addr} {acts : List ActT} (h : IsActs w a acts) (hc : Chg [] w w') : IsActs w' a acts := by
  refine ⟨h.1, fun i hi => ?_⟩
  obtain ⟨b, o, h1, h2, h3, h4⟩ := h.2 i hi
  exact ⟨b, o, h1, Nat.lt_of_lt_of_le h2 hc.size, fun j u hu => hc.cell (h3 j u hu) (by simp), ⟨h4.k, h4.q, h4.v.same hc, h4.life, h4.now⟩⟩
theorem act_cells {n : Nat} {cs : List Value} {y : DataW H × List MemPlace} (hl : cs.length = 9) (h : DataW.trod enc Try.prog w base spare held n 46 cs = some y) : ∃ a : ActT, OkA w a ∧ cs = actV a := by
  obtain ⟨c0, c1, c2, c3, c4, c5, c6, c7, c8, rfl⟩ : ∃ c0 c1 c2 c3 c4 c5 c6 c7 c8, cs = [c0, c1, c2, c3, c4, c5, c6, c7, c8] := by
    match cs, hl with
    | [c0, c1, c2, c3, c4, c5, c6, c7, c8], _ => exact ⟨c0, c1, c2, c3, c4, c5, c6, c7, c8, rfl⟩
  obtain ⟨fs, hfs, hz, f0, f1, f2, f3, f4, a0, a1, a2, a3, a4, b0, b1, b2, b3, b4, o0, o1, o2, o3, o4⟩ : ∃ fs, Try.prog.underlying 46 = some (.struct fs) ∧ fs.size = 5 ∧ ∃ f0 f1 f2 f3 f4, fs[0]? = some f0 ∧ fs[1]? = some f1 ∧ fs[2]? = some f2 ∧ fs[3]? = some f3 ∧ fs[4]? = some f4 ∧ f0.type = 5 ∧ f1.type = 24 ∧ f2.type = 34 ∧ f3.type = 2 ∧ f4.type = 2 ∧ f0.offset = 0 ∧ f1.offset = 1 ∧ f2.offset = 4 ∧ f3.offset = 7 ∧ f4.offset = 8 :=
    ⟨_, Try.underlying46, rfl, _, _, _, _, _, rfl, rfl, rfl, rfl, rfl, rfl, rfl, rfl, rfl, rfl, rfl, rfl, rfl, rfl, rfl⟩
  obtain ⟨ys, n', _, _, _, hl, hg⟩ := DataW.trod_struct hfs h
  have k0 : Try.prog.cellsOf 5 = 1 := by kernel_rfl
  have k1 : Try.prog.cellsOf 24 = 3 := by kernel_rfl
  have k2 : Try.prog.cellsOf 34 = 3 := by kernel_rfl
  have k3 : Try.prog.cellsOf 2 = 1 := by kernel_rfl
  have hl3 : ys.length = 5 := hl.trans hz
  have g0 := hg 0 f0 a0
  have g1 := hg 1 f1 a1
  have g2 := hg 2 f2 a2
  have g3 := hg 3 f3 a3
  have g4 := hg 4 f4 a4
  rw [b0, o0, k0, List.getElem?_eq_getElem (by omega)] at g0
  rw [b1, o1, k1, List.getElem?_eq_getElem (by omega)] at g1
  rw [b2, o2, k2, List.getElem?_eq_getElem (by omega)] at g2
  rw [b3, o3, k3, List.getElem?_eq_getElem (by omega)] at g3
  rw [b4, o4, k3, List.getElem?_eq_getElem (by omega)] at g4
  obtain ⟨a, e0, _, wa⟩ := DataW.trod_int Try.underlying5 (cs := [c0]) g0
  obtain ⟨q, hq, e1, e2, e3⟩ := quest_cells g1
  obtain ⟨v, hv, e4⟩ := ver_cells g2
  obtain ⟨l, e7, _, wl⟩ := DataW.trod_int Try.underlying2 (cs := [c7]) g3
  obtain ⟨t, e8, _, wt⟩ := DataW.trod_int Try.underlying2 (cs := [c8]) g4
  have ha := nat_u8 wa
  simp at e0 e7 e8
  refine ⟨⟨a.toNat, q, v, l, t, c5, c6⟩, ⟨by show a.toNat < 256; omega, hq, hv, int_i64 wl, int_i64 wt⟩, ?_⟩
  show [c0, c1, c2, c3, c4, c5, c6, c7, c8] = [.int .u8 ((a.toNat : Nat) : Int), .string q.nm, .int .u16 (q.ty : Nat), .int .u16 (q.cl : Nat), .int .u8 (v.code : Nat), c5, c6, .int .i64 l, .int .i64 t]
  rw [Int.toNat_of_nonneg ha.1, e0, e1, e2, e3, e4, e7, e8]
set_option maxRecDepth 100000 in
theorem open_acts {r : Reach} {b0 : Nat} {v : Value} {d : DataW H} {p : List MemPlace} (hv : Value.okWide Try.prog w r b0 42 v) (h : DataW.Trod enc Try.prog w base spare held 42 v d p) :
    ∃ a cap acts, v = .slice a acts.length cap ∧ IsActs w a acts := by
  obtain ⟨a, len, cap, rfl, hm, hx⟩ := recs_cells Try.underlying42 Try.underlying46 (C := 9) (by kernel_rfl) (by decide) (okWide_slice Try.underlying42 hv) h
  have key : ∀ i, i < len → ∃ x : ActT, OkA w x ∧ ∃ b o, a = some ⟨b, o, none⟩ ∧ b < w.heap.size ∧ ∀ j u, (actV x)[j]? = some u → w.cell? ⟨b, o + (i * 9 + j), none⟩ = some u := by
    intro i hi
    obtain ⟨b, o, ha, hb, cs, n, y, hl, hc, htr⟩ := hx i hi
    obtain ⟨x, hok, rfl⟩ := act_cells hl htr
    exact ⟨x, hok, b, o, ha, hb, hc⟩
  obtain ⟨acts, hl, hacts⟩ := list_of key
  refine ⟨a, cap, acts, by rw [hl], by rw [hl]; exact hm, fun i hi => ?_⟩
  obtain ⟨hok, b, o, h1, h2, h3⟩ := hacts i hi
  exact ⟨b, o, h1, h2, h3, hok⟩
/-- A slice of questions, as a list. -/
def IsQs (w : World) (a : Option Addr) (l : List Qn) : Prop :=
  l.length ≤ maxLen ∧ ∀ i (h : i < l.length), ∃ b o, a = some ⟨b, o, none⟩ ∧ b < w.heap.size ∧ (∀ j u, (qL l[i])[j]? = some u → w.cell? ⟨b, o + (i * 3 + j), none⟩ = some u) ∧ OkQ l[i]
theorem IsQs.chg {w w' : World} {a : Option Addr} {l : List Qn} (h : IsQs w a l) (hc : Chg [] w w') : IsQs w' a l := by
  refine ⟨h.1, fun i hi => ?_⟩
  obtain ⟨b, o, h1, h2, h3, h4⟩ := h.2 i hi
  exact ⟨b, o, h1, Nat.lt_of_lt_of_le h2 hc.size, fun j u hu => hc.cell (h3 j u hu) (by simp), h4⟩
set_option maxRecDepth 100000 in
theorem open_questions {r : Reach} {b0 : Nat} {v : Value} {d : DataW H} {p : List MemPlace} (hv : Value.okWide Try.prog w r b0 43 v) (h : DataW.Trod enc Try.prog w base spare held 43 v d p) :
    ∃ a cap l, v = .slice a l.length cap ∧ IsQs w a l := by
  obtain ⟨a, len, cap, rfl, hm, hx⟩ := recs_cells Try.underlying43 Try.underlying24 (C := 3) (by kernel_rfl) (by decide) (okWide_slice Try.underlying43 hv) h
  have key : ∀ i, i < len → ∃ x : Qn, OkQ x ∧ ∃ b o, a = some ⟨b, o, none⟩ ∧ b < w.heap.size ∧ ∀ j u, (qL x)[j]? = some u → w.cell? ⟨b, o + (i * 3 + j), none⟩ = some u := by
    intro i hi
    obtain ⟨b, o, ha, hb, cs, n, y, hl, hc, htr⟩ := hx i hi
    obtain ⟨c0, c1, c2, rfl⟩ : ∃ c0 c1 c2, cs = [c0, c1, c2] := by
      match cs, hl with
      | [c0, c1, c2], _ => exact ⟨c0, c1, c2, rfl⟩
    obtain ⟨x, hok, rfl, rfl, rfl⟩ := quest_cells htr
    exact ⟨x, hok, b, o, ha, hb, hc⟩
  obtain ⟨l, hl, hacts⟩ := list_of key
  refine ⟨a, cap, l, by rw [hl], by rw [hl]; exact hm, fun i hi => ?_⟩
  obtain ⟨hok, b, o, h1, h2, h3⟩ := hacts i hi
  exact ⟨b, o, h1, h2, h3, hok⟩
set_option maxRecDepth 100000 in
theorem open_verdict {r : Reach} {b0 : Nat} {v : Value} {d : DataW H} {p : List MemPlace} (hv : Value.okWide Try.prog w r b0 34 v) (h : DataW.Trod enc Try.prog w base (fun _ => true) held 34 v d p) :
    ∃ a : ActT, v = .agg #[.int .u8 (a.v.code : Nat), a.sv, a.ov] ∧ RawV w a.sv a.ov a.v := by
  have k1 : Try.prog.cellsOf 34 = 3 := by kernel_rfl
  obtain ⟨cs, rfl, hsz⟩ := okWide_struct Try.underlying34 hv
  obtain ⟨fuel, hf⟩ := h
  have h3 : cs.toList.length = 3 := by rw [Array.length_toList, hsz, k1]
  obtain ⟨c0, c1, c2, e⟩ : ∃ c0 c1 c2, cs.toList = [c0, c1, c2] := by
    match cs.toList, h3 with
    | [c0, c1, c2], _ => exact ⟨c0, c1, c2, rfl⟩
  have hf' : DataW.trod enc Try.prog w base (fun _ => true) held fuel 34 [c0, c1, c2] = some (d, p) := by rw [← e]; exact hf
  obtain ⟨v, hv, e0⟩ := ver_cells hf'
  have e3 : cs = #[c0, c1, c2] := by
    apply Array.toList_inj.1
    exact e
  exact ⟨⟨0, ⟨⟨#[]⟩, 0, 0⟩, v, 0, 0, c1, c2⟩, by rw [e3, e0], hv⟩
end

end Go.Proofs.Ytgdnfempcjlipaa
