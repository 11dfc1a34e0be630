/- The acts that came in: what is done, with which question, at which slot, who waits; a question; rows of waiters. -/
import Derived.Test.YtopkbchjlifflaaChecked
import Derived.Test.YtopkbchjlifflaaRecs
import Derived.Test.YtopkbchjlifflaaFlB
import Derived.SliceStrings
namespace Go.Proofs.Ytopkbchjlifflaa
open Go.ChangeShapes Go.WideShapes Go.Deep Go.RowKit

structure ActT where
  k : Nat
  q : Qs
  s : Int
  x : Wt
structure OkX (x : Wt) : Prop where
  who : -9223372036854775808 ≤ x.who ∧ x.who ≤ 9223372036854775807
  data : x.data.length ≤ maxLen
structure ActT.ok (a : ActT) : Prop where
  k : a.k < 256
  q : OkQ a.q
  s : -9223372036854775808 ≤ a.s ∧ a.s ≤ 9223372036854775807
  x : OkX a.x
/-- The cells of an act. -/
def actV (a : ActT) : List Value := [.int .u8 (a.k : Nat), .string (bytesV a.q.name), .int .u16 (a.q.ty : Nat), .int .u16 (a.q.cl : Nat), .int .i64 a.s, .int .i64 a.x.who, .string (bytesV a.x.data)]
/-- A slice of acts, as a list. -/
def IsActs (w : World) (a : Option Addr) (acts : List ActT) : Prop :=
  acts.length ≤ maxLen ∧ ∀ i (h : i < acts.length), ∃ b o, a = some ⟨b, o, none⟩ ∧ b < w.heap.size ∧ (∀ j u, (actV acts[i])[j]? = some u → w.cell? ⟨b, o + (i * 7 + j), none⟩ = some u) ∧ acts[i].ok
theorem IsActs.chg {w w' : World} {a : Option Addr} {acts : List ActT} (h : IsActs w a acts) (hc : Chg [] w w') : IsActs w' a acts := by
  refine ⟨h.1, fun i hi => ?_⟩
  obtain ⟨b, o, h1, h2, h3, h4⟩ := h.2 i hi
  exact ⟨b, o, h1, Nat.lt_of_lt_of_le h2 hc.size, fun j u hu => hc.cell (h3 j u hu) (by simp), h4⟩
theorem isActs_nil (w : World) : IsActs w none [] := ⟨Nat.zero_le _, fun i hi => absurd hi (by simp)⟩
/-- A slice of waiters of the document's, as a list. -/
def IsWts (w : World) (a : Option Addr) (l : List Wt) : Prop :=
  l.length ≤ maxLen ∧ ∀ i (h : i < l.length), ∃ b o, a = some ⟨b, o, none⟩ ∧ b < w.heap.size ∧ (∀ j u, (wV l[i])[j]? = some u → w.cell? ⟨b, o + (i * 2 + j), none⟩ = some u) ∧ OkX l[i]
theorem IsWts.chg {w w' : World} {a : Option Addr} {l : List Wt} (h : IsWts w a l) (hc : Chg [] w w') : IsWts w' a l := by
  refine ⟨h.1, fun i hi => ?_⟩
  obtain ⟨b, o, h1, h2, h3, h4⟩ := h.2 i hi
  exact ⟨b, o, h1, Nat.lt_of_lt_of_le h2 hc.size, fun j u hu => hc.cell (h3 j u hu) (by simp), h4⟩

theorem nat_u8 {n : Int} (h : (Lit.int .u8 n).wf = true) : 0 ≤ n ∧ n < 256 := by
  simp [Lit.wf, IntKind.min, IntKind.max, IntKind.signed, IntKind.bits] at h
  omega
theorem nat_u16 {n : Int} (h : (Lit.int .u16 n).wf = true) : 0 ≤ n ∧ n < 65536 := by
  simp [Lit.wf, IntKind.min, IntKind.max, IntKind.signed, IntKind.bits] at h
  omega
theorem int_i64 {n : Int} (h : (Lit.int .i64 n).wf = true) : -9223372036854775808 ≤ n ∧ n ≤ 9223372036854775807 := by
  simp [Lit.wf, IntKind.min, IntKind.max, IntKind.signed, IntKind.bits] at h
  omega
theorem bytesV_of (s : ByteArray) : bytesV s.data.toList = s := by simp [bytesV]
def strAt (w : World) (b o : Nat) : ByteArray := match w.cell? ⟨b, o, none⟩ with | some (.string s) => s | _ => ByteArray.empty
theorem strAt_of {w : World} {b o : Nat} {s : ByteArray} (h : w.cell? ⟨b, o, none⟩ = some (.string s)) : strAt w b o = s := by
  unfold strAt; rw [h]

theorem list_of {α : Type} {n : Nat} {P : α → Prop} {Q : Nat → α → Prop} (h : ∀ i, i < n → ∃ x, P x ∧ Q i x) : ∃ l : List α, l.length = n ∧ ∀ i (hi : i < l.length), P l[i] ∧ Q i l[i] := by
  induction n with
  | zero => exact ⟨[], rfl, fun i hi => absurd hi (by simp)⟩
  | succ n ih =>
    obtain ⟨l, hl, hx⟩ := ih fun i hi => h i (by omega)
    obtain ⟨x, hp, hq⟩ := h n (by omega)
    refine ⟨l ++ [x], by simp [hl], fun i hi => ?_⟩
    by_cases e : i < l.length
    · rw [List.getElem_append_left e]
      exact hx i e
    · have e2 : i = l.length := by simp at hi; omega
      subst e2
      have e3 : (l ++ [x])[l.length] = x := by simp
      rw [e3]
      exact ⟨hp, by rw [hl]; exact hq⟩
section
variable {H : Type} {enc : TypeId × Value → H} {w : World} {base : Nat} {spare : Nat → Bool} {held : Bool}
/-- A slice of structs that came in: each one's cells, and that they read as the struct. -/
theorem recs_cells {P : Program} {t e : TypeId} {fs : Array Field} {v : Value} {d : DataW H} {p : List MemPlace} {C : Nat} (ht : P.underlying t = some (.slice e)) (he : P.underlying e = some (.struct fs)) (hC : P.cellsOf e = C) (hpos : 0 < C)
    (hv : ∃ a len cap, v = .slice a len cap) (h : DataW.Trod enc P w base spare held t v d p) :
    ∃ a len cap, v = .slice a len cap ∧ len ≤ maxLen ∧
      ∀ i, i < len → ∃ b o, a = some ⟨b, o, none⟩ ∧ b < w.heap.size ∧ ∃ cs n y, cs.length = C ∧ (∀ k u, cs[k]? = some u → w.cell? ⟨b, o + (i * C + k), none⟩ = some u) ∧ DataW.trod enc P w base spare held n e cs = some y := by
  obtain ⟨a, len, cap, rfl⟩ := hv
  obtain ⟨fuel, hf⟩ := h
  refine ⟨a, len, cap, rfl, ?_⟩
  rcases open_slice ht hf with ⟨hcs, _⟩ | ⟨x, len', cap', m, n, D, Pl, hcs, _, hl, hm, hmm, _, hx⟩
  · simp [Value.cells] at hcs
    obtain ⟨rfl, rfl, rfl⟩ := hcs
    exact ⟨Nat.zero_le _, fun i hi => absurd hi (by simp)⟩
  · simp [Value.cells] at hcs
    obtain ⟨rfl, rfl, rfl⟩ := hcs
    refine ⟨Nat.le_trans hl hm, fun i hi => ?_⟩
    have him : i < m := by rw [hmm]; split <;> omega
    have key : ∀ i, i < m → ∃ cs y, cs.length = C ∧ (∀ k u, cs[k]? = some u → w.cell? (x.add (i * C + k)) = some u) ∧ DataW.trod enc P w base spare held n e cs = some y := by
      intro i hi
      obtain ⟨cs, hc, htr⟩ := hx i hi
      obtain ⟨hln, hcl, hat⟩ := World.cells?_some hc
      rw [hC] at hc hat
      obtain ⟨ys, n', _, _, hlen, _, hg⟩ := DataW.trod_struct he htr
      have hlc : cs.length = C := by rw [hlen, hC]
      refine ⟨cs, _, hlc, fun k u hu => ?_, htr⟩
      have hk : k < C := by
        rcases Nat.lt_or_ge k cs.length with hh | hh
        · omega
        · rw [List.getElem?_eq_none hh] at hu; cases hu
      have h2 := hat k hk
      rw [hu, Go.Deep.add_add] at h2
      exact h2
    obtain ⟨cs, y, hlc, hcell, htr⟩ := key i him
    obtain ⟨u0, hu0⟩ : ∃ u0, cs[0]? = some u0 := ⟨_, List.getElem?_eq_getElem (by omega)⟩
    have hsp : x.spot = none := by
      obtain ⟨cs', y', hlc', hcell', _⟩ := key 0 (by omega)
      obtain ⟨u1, hu1⟩ : ∃ u1, cs'[0]? = some u1 := ⟨_, List.getElem?_eq_getElem (by omega)⟩
      have := no_spot (hcell' 0 u1 hu1)
      simpa [Addr.add] using this
    have hxe : x = ⟨x.block, x.off, none⟩ := by rw [← hsp]
    refine ⟨x.block, x.off, by rw [← hxe], ?_, cs, n, y, hlc, fun k u hu => ?_, htr⟩
    · have := World.block_lt_of_cell? _ _ (hcell 0 u0 hu0)
      rwa [block_add] at this
    · have h1 := hcell k u hu
      have e2 := add_flat x.block x.off (i * C + k)
      rw [← hxe] at e2
      rw [← e2]; exact h1
/-- A question's three cells. -/
theorem quest_cells {n : Nat} {c0 c1 c2 : Value} {y : DataW H × List MemPlace} (h : DataW.trod enc Try.prog w base spare held n 25 [c0, c1, c2] = some y) : ∃ q : Qs, OkQ q ∧ c0 = .string (bytesV q.name) ∧ c1 = .int .u16 (q.ty : Nat) ∧ c2 = .int .u16 (q.cl : Nat) := by
  obtain ⟨fs, hfs, hz, f0, f1, f2, a0, a1, a2, b0, b1, b2, o0, o1, o2⟩ : ∃ fs, Try.prog.underlying 25 = some (.struct fs) ∧ fs.size = 3 ∧ ∃ f0 f1 f2, fs[0]? = some f0 ∧ fs[1]? = some f1 ∧ fs[2]? = some f2 ∧ f0.type = 9 ∧ f1.type = 23 ∧ f2.type = 23 ∧ f0.offset = 0 ∧ f1.offset = 1 ∧ f2.offset = 2 :=
    ⟨_, Try.underlying25, rfl, _, _, _, rfl, rfl, rfl, rfl, rfl, rfl, rfl, rfl, rfl⟩
  obtain ⟨ys, n', _, _, _, hl, hg⟩ := DataW.trod_struct hfs h
  have k2 : Try.prog.cellsOf 9 = 1 := by kernel_rfl
  have k3 : Try.prog.cellsOf 23 = 1 := by kernel_rfl
  have hl3 : ys.length = 3 := hl.trans hz
  have g0 := hg 0 f0 a0
  have g1 := hg 1 f1 a1
  have g2 := hg 2 f2 a2
  rw [List.getElem?_eq_getElem (by omega)] at g0 g1 g2
  rw [b0, o0, k2] at g0
  rw [b1, o1, k3] at g1
  rw [b2, o2, k3] at g2
  obtain ⟨s, e0, _, ws⟩ := DataW.trod_string Try.underlying9 (cs := [c0]) g0
  obtain ⟨a, e1, _, wa⟩ := DataW.trod_int Try.underlying23 (cs := [c1]) g1
  obtain ⟨b, e2, _, wb⟩ := DataW.trod_int Try.underlying23 (cs := [c2]) g2
  have ha := nat_u16 wa
  have hb := nat_u16 wb
  refine ⟨⟨s.data.toList, a.toNat, b.toNat⟩, ⟨?_, by show a.toNat < 65536; omega, by show b.toNat < 65536; omega⟩, ?_, ?_, ?_⟩
  · show s.data.toList.length ≤ maxLen
    rw [size_list]; exact ws
  · rw [bytesV_of]; simpa using e0
  · show c1 = .int .u16 ((a.toNat : Nat) : Int)
    rw [Int.toNat_of_nonneg ha.1]
    simpa using e1
  · show c2 = .int .u16 ((b.toNat : Nat) : Int)
    rw [Int.toNat_of_nonneg hb.1]
    simpa using e2
theorem wait_cells {n : Nat} {c0 c1 : Value} {y : DataW H × List MemPlace} (h : DataW.trod enc Try.prog w base spare held n 36 [c0, c1] = some y) : ∃ x : Wt, OkX x ∧ c0 = .int .i64 x.who ∧ c1 = .string (bytesV x.data) := by
  obtain ⟨fs, hfs, hz, f0, f1, a0, a1, b0, b1, o0, o1⟩ : ∃ fs, Try.prog.underlying 36 = some (.struct fs) ∧ fs.size = 2 ∧ ∃ f0 f1, fs[0]? = some f0 ∧ fs[1]? = some f1 ∧ f0.type = 3 ∧ f1.type = 9 ∧ f0.offset = 0 ∧ f1.offset = 1 :=
    ⟨_, Try.underlying36, rfl, _, _, rfl, rfl, rfl, rfl, rfl, rfl⟩
  obtain ⟨ys, n', _, _, _, hl, hg⟩ := DataW.trod_struct hfs h
  have k2 : Try.prog.cellsOf 9 = 1 := by kernel_rfl
  have k3 : Try.prog.cellsOf 3 = 1 := by kernel_rfl
  have hl3 : ys.length = 2 := hl.trans hz
  have g0 := hg 0 f0 a0
  have g1 := hg 1 f1 a1
  rw [List.getElem?_eq_getElem (by omega)] at g0 g1
  rw [b0, o0, k3] at g0
  rw [b1, o1, k2] at g1
  obtain ⟨a, e0, _, wa⟩ := DataW.trod_int Try.underlying3 (cs := [c0]) g0
  obtain ⟨s, e1, _, ws⟩ := DataW.trod_string Try.underlying9 (cs := [c1]) g1
  refine ⟨⟨a, s.data.toList⟩, ⟨int_i64 wa, ?_⟩, ?_, ?_⟩
  · show s.data.toList.length ≤ maxLen
    rw [size_list]; exact ws
  · simpa using e0
  · rw [bytesV_of]; simpa using e1

theorem act_cells {n : Nat} {cs : List Value} {y : DataW H × List MemPlace} (hl : cs.length = 7) (h : DataW.trod enc Try.prog w base spare held n 40 cs = some y) : ∃ a : ActT, a.ok ∧ cs = actV a := by
  obtain ⟨c0, c1, c2, c3, c4, c5, c6, rfl⟩ : ∃ c0 c1 c2 c3 c4 c5 c6, cs = [c0, c1, c2, c3, c4, c5, c6] := by
    match cs, hl with
    | [c0, c1, c2, c3, c4, c5, c6], _ => exact ⟨c0, c1, c2, c3, c4, c5, c6, rfl⟩
  obtain ⟨fs, hfs, hz, f0, f1, f2, f3, a0, a1, a2, a3, b0, b1, b2, b3, o0, o1, o2, o3⟩ : ∃ fs, Try.prog.underlying 40 = some (.struct fs) ∧ fs.size = 4 ∧ ∃ f0 f1 f2 f3, fs[0]? = some f0 ∧ fs[1]? = some f1 ∧ fs[2]? = some f2 ∧ fs[3]? = some f3 ∧ f0.type = 5 ∧ f1.type = 25 ∧ f2.type = 3 ∧ f3.type = 36 ∧ f0.offset = 0 ∧ f1.offset = 1 ∧ f2.offset = 4 ∧ f3.offset = 5 :=
    ⟨_, Try.underlying40, rfl, _, _, _, _, rfl, rfl, rfl, rfl, rfl, rfl, rfl, rfl, rfl, rfl, rfl, rfl⟩
  obtain ⟨ys, n', _, _, _, hl, hg⟩ := DataW.trod_struct hfs h
  have k0 : Try.prog.cellsOf 5 = 1 := by kernel_rfl
  have k1 : Try.prog.cellsOf 25 = 3 := by kernel_rfl
  have k2 : Try.prog.cellsOf 3 = 1 := by kernel_rfl
  have k3 : Try.prog.cellsOf 36 = 2 := by kernel_rfl
  have hl3 : ys.length = 4 := hl.trans hz
  have g0 := hg 0 f0 a0
  have g1 := hg 1 f1 a1
  have g2 := hg 2 f2 a2
  have g3 := hg 3 f3 a3
  rw [b0, o0, k0, List.getElem?_eq_getElem (by omega)] at g0
  rw [b1, o1, k1, List.getElem?_eq_getElem (by omega)] at g1
  rw [b2, o2, k2, List.getElem?_eq_getElem (by omega)] at g2
  rw [b3, o3, k3, List.getElem?_eq_getElem (by omega)] at g3
  obtain ⟨a, e0, _, wa⟩ := DataW.trod_int Try.underlying5 (cs := [c0]) g0
  obtain ⟨q, hq, e1, e2, e3⟩ := quest_cells g1
  obtain ⟨s, e4, _, ws⟩ := DataW.trod_int Try.underlying3 (cs := [c4]) g2
  obtain ⟨x, hx, e5, e6⟩ := wait_cells g3
  have ha := nat_u8 wa
  simp at e0 e4
  refine ⟨⟨a.toNat, q, s, x⟩, ⟨by show a.toNat < 256; omega, hq, int_i64 ws, hx⟩, ?_⟩
  show [c0, c1, c2, c3, c4, c5, c6] = [.int .u8 ((a.toNat : Nat) : Int), .string (bytesV q.name), .int .u16 (q.ty : Nat), .int .u16 (q.cl : Nat), .int .i64 s, .int .i64 x.who, .string (bytesV x.data)]
  rw [Int.toNat_of_nonneg ha.1, e0, e1, e2, e3, e4, e5, e6]
set_option maxRecDepth 100000 in
theorem open_acts {r : Reach} {b0 : Nat} {v : Value} {d : DataW H} {p : List MemPlace} (hv : Value.okWide Try.prog w r b0 22 v) (h : DataW.Trod enc Try.prog w base spare held 22 v d p) :
    ∃ a cap acts, v = .slice a acts.length cap ∧ IsActs w a acts := by
  obtain ⟨a, len, cap, rfl, hm, hx⟩ := recs_cells Try.underlying22 Try.underlying40 (C := 7) (by kernel_rfl) (by decide) (okWide_slice Try.underlying22 hv) h
  have key : ∀ i, i < len → ∃ x : ActT, x.ok ∧ ∃ b o, a = some ⟨b, o, none⟩ ∧ b < w.heap.size ∧ ∀ j u, (actV x)[j]? = some u → w.cell? ⟨b, o + (i * 7 + j), none⟩ = some u := by
    intro i hi
    obtain ⟨b, o, ha, hb, cs, n, y, hl, hc, htr⟩ := hx i hi
    obtain ⟨x, hok, rfl⟩ := act_cells hl htr
    exact ⟨x, hok, b, o, ha, hb, hc⟩
  obtain ⟨acts, hl, hacts⟩ := list_of key
  refine ⟨a, cap, acts, by rw [hl], by rw [hl]; exact hm, fun i hi => ?_⟩
  obtain ⟨hok, b, o, h1, h2, h3⟩ := hacts i hi
  exact ⟨b, o, h1, h2, h3, hok⟩
set_option maxRecDepth 100000 in
theorem open_waiters {r : Reach} {b0 : Nat} {v : Value} {d : DataW H} {p : List MemPlace} (hv : Value.okWide Try.prog w r b0 26 v) (h : DataW.Trod enc Try.prog w base spare held 26 v d p) :
    ∃ a cap l, v = .slice a l.length cap ∧ IsWts w a l := by
  obtain ⟨a, len, cap, rfl, hm, hx⟩ := recs_cells Try.underlying26 Try.underlying36 (C := 2) (by kernel_rfl) (by decide) (okWide_slice Try.underlying26 hv) h
  have key : ∀ i, i < len → ∃ x : Wt, OkX x ∧ ∃ b o, a = some ⟨b, o, none⟩ ∧ b < w.heap.size ∧ ∀ j u, (wV x)[j]? = some u → w.cell? ⟨b, o + (i * 2 + j), none⟩ = some u := by
    intro i hi
    obtain ⟨b, o, ha, hb, cs, n, y, hl, hc, htr⟩ := hx i hi
    obtain ⟨c0, c1, rfl⟩ : ∃ c0 c1, cs = [c0, c1] := by
      match cs, hl with
      | [c0, c1], _ => exact ⟨c0, c1, rfl⟩
    obtain ⟨x, hok, rfl, rfl⟩ := wait_cells htr
    exact ⟨x, hok, b, o, ha, hb, hc⟩
  obtain ⟨l, hl, hacts⟩ := list_of key
  refine ⟨a, cap, l, by rw [hl], by rw [hl]; exact hm, fun i hi => ?_⟩
  obtain ⟨hok, b, o, h1, h2, h3⟩ := hacts i hi
  exact ⟨b, o, h1, h2, h3, hok⟩
set_option maxRecDepth 100000 in
theorem open_question {r : Reach} {b0 : Nat} {v : Value} {d : DataW H} {p : List MemPlace} (hv : Value.okWide Try.prog w r b0 25 v) (h : DataW.Trod enc Try.prog w base (fun _ => true) held 25 v d p) :
    ∃ q : Qs, v = .agg #[.string (bytesV q.name), .int .u16 (q.ty : Nat), .int .u16 (q.cl : Nat)] ∧ OkQ q := by
  have k1 : Try.prog.cellsOf 25 = 3 := by kernel_rfl
  obtain ⟨cs, rfl, hsz⟩ := okWide_struct Try.underlying25 hv
  obtain ⟨fuel, hf⟩ := h
  have h3 : cs.toList.length = 3 := by rw [Array.length_toList, hsz, k1]
  obtain ⟨c0, c1, c2, e⟩ : ∃ c0 c1 c2, cs.toList = [c0, c1, c2] := by
    match cs.toList, h3 with
    | [c0, c1, c2], _ => exact ⟨c0, c1, c2, rfl⟩
  have hf' : DataW.trod enc Try.prog w base (fun _ => true) held fuel 25 [c0, c1, c2] = some (d, p) := by rw [← e]; exact hf
  obtain ⟨q, hq, e0, e1, e2⟩ := quest_cells hf'
  have e3 : cs = #[c0, c1, c2] := by
    apply Array.toList_inj.1
    exact e
  exact ⟨q, by rw [e3, e0, e1, e2], hq⟩
end

end Go.Proofs.Ytopkbchjlifflaa
