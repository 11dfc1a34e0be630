/- The arguments that came in: questions, verdicts, acts. -/
import Derived.Test.YtgdnfempcjlipaaChecked
import Derived.Test.YtgdnfempcjlipaaBaseZ
import Derived.Test.YtgdnfempcjlipaaCacH
import Derived.SliceStrings
namespace Go.Proofs.Ytgdnfempcjlipaa
open Go.ChangeShapes Go.WideShapes Go.Deep Go.RowKit

theorem nat_u8 {n : Int} (h : (Lit.int .u8 n).wf = true) : 0 ≤ n ∧ n < 256 := by
  simp [Lit.wf, IntKind.min, IntKind.max, IntKind.signed, IntKind.bits] at h
  omega
theorem nat_u16 {n : Int} (h : (Lit.int .u16 n).wf = true) : 0 ≤ n ∧ n < 65536 := by
  simp [Lit.wf, IntKind.min, IntKind.max, IntKind.signed, IntKind.bits] at h
  omega
theorem int_i64 {n : Int} (h : (Lit.int .i64 n).wf = true) : -9223372036854775808 ≤ n ∧ n ≤ 9223372036854775807 := by
  simp [Lit.wf, IntKind.min, IntKind.max, IntKind.signed, IntKind.bits] at h
  omega
theorem list_of {α : Type} {n : Nat} {P : α → Prop} {Q : Nat → α → Prop} (h : ∀ i, i < n → ∃ x, P x ∧ Q i x) : ∃ l : List α, l.length = n ∧ ∀ i (hi : i < l.length), P l[i] ∧ Q i l[i] := by
  induction n with
  | zero => exact ⟨[], rfl, fun i hi => absurd hi (by simp)⟩
  | succ n ih =>
    obtain ⟨l, hl, hx⟩ := ih fun i hi => h i (by omega)
    obtain ⟨x, hp, hq⟩ := h n (by omega)
    refine ⟨l ++ [x], by simp [hl], fun i hi => ?_⟩
    by_cases e : i < l.length
    · rw [List.getElem_append_left e]
      exact hx i e
    · have e2 : i = l.length := by simp at hi; omega
      subst e2
      have e3 : (l ++ [x])[l.length] = x := by simp
      rw [e3]
      exact ⟨hp, by rw [hl]; exact hq⟩
section
variable {H : Type} {enc : TypeId × Value → H} {w : World} {base : Nat} {spare : Nat → Bool} {held : Bool}
/-- A slice of structs that came in: each one's cells, and that they read as the struct. -/
theorem recs_cells {P : Program} {t e : TypeId} {fs : Array Field} {v : Value} {d : DataW H} {p : List MemPlace} {C : Nat} (ht : P.underlying t = some (.slice e)) (he : P.underlying e = some (.struct fs)) (hC : P.cellsOf e = C) (hpos : 0 < C)
    (hv : ∃ a len cap, v = .slice a len cap) (h : DataW.Trod enc P w base spare held t v d p) :
    ∃ a len cap, v = .slice a len cap ∧ len ≤ maxLen ∧
      ∀ i, i < len → ∃ b o, a = some ⟨b, o, none⟩ ∧ b < w.heap.size ∧ ∃ cs n y, cs.length = C ∧ (∀ k u, cs[k]? = some u → w.cell? ⟨b, o + (i * C + k), none⟩ = some u) ∧ DataW.trod enc P w base spare held n e cs = some y := by
  obtain ⟨a, len, cap, rfl⟩ := hv
  obtain ⟨fuel, hf⟩ := h
  refine ⟨a, len, cap, rfl, ?_⟩
  rcases open_slice ht hf with ⟨hcs, _⟩ | ⟨x, len', cap', m, n, D, Pl, hcs, _, hl, hm, hmm, _, hx⟩
  · simp [Value.cells] at hcs
    obtain ⟨rfl, rfl, rfl⟩ := hcs
    exact ⟨Nat.zero_le _, fun i hi => absurd hi (by simp)⟩
  · simp [Value.cells] at hcs
    obtain ⟨rfl, rfl, rfl⟩ := hcs
    refine ⟨Nat.le_trans hl hm, fun i hi => ?_⟩
    have him : i < m := by rw [hmm]; split <;> omega
    have key : ∀ i, i < m → ∃ cs y, cs.length = C ∧ (∀ k u, cs[k]? = some u → w.cell? (x.add (i * C + k)) = some u) ∧ DataW.trod enc P w base spare held n e cs = some y := by
      intro i hi
      obtain ⟨cs, hc, htr⟩ := hx i hi
      obtain ⟨hln, hcl, hat⟩ := World.cells?_some hc
      rw [hC] at hc hat
      obtain ⟨ys, n', _, _, hlen, _, hg⟩ := DataW.trod_struct he htr
      have hlc : cs.length = C := by rw [hlen, hC]
      refine ⟨cs, _, hlc, fun k u hu => ?_, htr⟩
      have hk : k < C := by
        rcases Nat.lt_or_ge k cs.length with hh | hh
        · omega
        · rw [List.getElem?_eq_none hh] at hu; cases hu
      have h2 := hat k hk
      rw [hu, Go.Deep.add_add] at h2
      exact h2
    obtain ⟨cs, y, hlc, hcell, htr⟩ := key i him
    obtain ⟨u0, hu0⟩ : ∃ u0, cs[0]? = some u0 := ⟨_, List.getElem?_eq_getElem (by omega)⟩
    have hsp : x.spot = none := by
      obtain ⟨cs', y', hlc', hcell', _⟩ := key 0 (by omega)
      obtain ⟨u1, hu1⟩ : ∃ u1, cs'[0]? = some u1 := ⟨_, List.getElem?_eq_getElem (by omega)⟩
      have := no_spot (hcell' 0 u1 hu1)
      simpa [Addr.add] using this
    have hxe : x = ⟨x.block, x.off, none⟩ := by rw [← hsp]
    refine ⟨x.block, x.off, by rw [← hxe], ?_, cs, n, y, hlc, fun k u hu => ?_, htr⟩
    · have := World.block_lt_of_cell? _ _ (hcell 0 u0 hu0)
      rwa [block_add] at this
    · have h1 := hcell k u hu
      have e2 := add_flat x.block x.off (i * C + k)
      rw [← hxe] at e2
      rw [← e2]; exact h1
/-- A question's three cells. -/
theorem quest_cells {n : Nat} {c0 c1 c2 : Value} {y : DataW H × List MemPlace} (h : DataW.trod enc Try.prog w base spare held n 24 [c0, c1, c2] = some y) : ∃ q : Qn, OkQ q ∧ c0 = .string q.nm ∧ c1 = .int .u16 (q.ty : Nat) ∧ c2 = .int .u16 (q.cl : Nat) := by
  obtain ⟨fs, hfs, hz, f0, f1, f2, a0, a1, a2, b0, b1, b2, o0, o1, o2⟩ : ∃ fs, Try.prog.underlying 24 = some (.struct fs) ∧ fs.size = 3 ∧ ∃ f0 f1 f2, fs[0]? = some f0 ∧ fs[1]? = some f1 ∧ fs[2]? = some f2 ∧ f0.type = 9 ∧ f1.type = 22 ∧ f2.type = 22 ∧ f0.offset = 0 ∧ f1.offset = 1 ∧ f2.offset = 2 :=
    ⟨_, Try.underlying24, rfl, _, _, _, rfl, rfl, rfl, rfl, rfl, rfl, rfl, rfl, rfl⟩
  obtain ⟨ys, n', _, _, _, hl, hg⟩ := DataW.trod_struct hfs h
  have k2 : Try.prog.cellsOf 9 = 1 := by kernel_rfl
  have k3 : Try.prog.cellsOf 22 = 1 := by kernel_rfl
  have hl3 : ys.length = 3 := hl.trans hz
  have g0 := hg 0 f0 a0
  have g1 := hg 1 f1 a1
  have g2 := hg 2 f2 a2
  rw [List.getElem?_eq_getElem (by omega)] at g0 g1 g2
  rw [b0, o0, k2] at g0
  rw [b1, o1, k3] at g1
  rw [b2, o2, k3] at g2
  obtain ⟨s, e0, _, ws⟩ := DataW.trod_string Try.underlying9 (cs := [c0]) g0
  obtain ⟨a, e1, _, wa⟩ := DataW.trod_int Try.underlying22 (cs := [c1]) g1
  obtain ⟨b, e2, _, wb⟩ := DataW.trod_int Try.underlying22 (cs := [c2]) g2
  have ha := nat_u16 wa
  have hb := nat_u16 wb
  refine ⟨⟨s, a.toNat, b.toNat⟩, ⟨ws, by show a.toNat < 65536; omega, by show b.toNat < 65536; omega⟩, ?_, ?_, ?_⟩
  · simpa using e0
  · show c1 = .int .u16 ((a.toNat : Nat) : Int)
    rw [Int.toNat_of_nonneg ha.1]
    simpa using e1
  · show c2 = .int .u16 ((b.toNat : Nat) : Int)
    rw [Int.toNat_of_nonneg hb.1]
    simpa using e2
set_option maxRecDepth 100000 in
theorem open_question {r : Reach} {b0 : Nat} {v : Value} {d : DataW H} {p : List MemPlace} (hv : Value.okWide Try.prog w r b0 24 v) (h : DataW.Trod enc Try.prog w base (fun _ => true) held 24 v d p) :
    ∃ q : Qn, v = .agg (qV q) ∧ OkQ q := by
  have k1 : Try.prog.cellsOf 24 = 3 := by kernel_rfl
  obtain ⟨cs, rfl, hsz⟩ := okWide_struct Try.underlying24 hv
  obtain ⟨fuel, hf⟩ := h
  have h3 : cs.toList.length = 3 := by rw [Array.length_toList, hsz, k1]
  obtain ⟨c0, c1, c2, e⟩ : ∃ c0 c1 c2, cs.toList = [c0, c1, c2] := by
    match cs.toList, h3 with
    | [c0, c1, c2], _ => exact ⟨c0, c1, c2, rfl⟩
  have hf' : DataW.trod enc Try.prog w base (fun _ => true) held fuel 24 [c0, c1, c2] = some (d, p) := by rw [← e]; exact hf
  obtain ⟨q, hq, e0, e1, e2⟩ := quest_cells hf'
  have e3 : cs = #[c0, c1, c2] := by
    apply Array.toList_inj.1
    exact e
  exact ⟨q, by rw [e3, e0, e1, e2]; rfl, hq⟩
end

end Go.Proofs.Ytgdnfempcjlipaa
