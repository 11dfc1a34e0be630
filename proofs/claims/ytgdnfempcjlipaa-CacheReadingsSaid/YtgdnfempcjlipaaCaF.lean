/- What the walks of CacheLasts and CacheReadings need: boxed verdicts, acts, rows of numbers. -/
import Derived.Test.YtgdnfempcjlipaaCaE
namespace Go.Proofs.Ytgdnfempcjlipaa
open Go.RowKit Go.Maps

/-- A verdict's box. -/
def VAt (w : World) (b : Nat) (code : Nat) (sv ov : Value) : Prop := w.heap[b]? = some (.cells #[.int .u8 (code : Nat), sv, ov] 34 (0, 0))
theorem VAt.cchg {w w' : World} {b code : Nat} {sv ov : Value} (h : VAt w b code sv ov) (hc : CChg w w') : VAt w' b code sv ov := hc.keep h (by decide)
theorem VAt.same {w w' : World} {b code : Nat} {sv ov : Value} (h : VAt w b code sv ov) (hc : Chg [] w w') : VAt w' b code sv ov := hc.keep h (by simp)
theorem VAt.ck {w w' : World} {b code : Nat} {sv ov : Value} (h : VAt w b code sv ov) (hc : CK w w') : VAt w' b code sv ov := hc.2 _ _ _ _ h (by decide)
theorem QAt.ck {w w' : World} {b : Nat} {q : Qn} (h : QAt w b q) (hc : CK w w') : QAt w' b q := hc.2 _ _ _ _ h (by decide)
theorem VAt.c3 {w : World} {b code : Nat} {sv ov : Value} (h : VAt w b code sv ov) : w.cell? ⟨b, 0, none⟩ = some (.int .u8 (code : Nat)) ∧ w.cell? ⟨b, 1, none⟩ = some sv ∧ w.cell? ⟨b, 2, none⟩ = some ov := ⟨cell_of h, cell_of h, cell_of h⟩
theorem CK.rawV {w wr : World} (hc : Chg [] w wr) {sv ov : Value} {v : Ver} (h : RawV w sv ov v) : RawV wr sv ov v := h.same hc
/-- One act, in a block of its own. -/
theorem isActs_one {w : World} {b : Nat} {x : Qn} {v : Ver} {sv ov : Value} (h : w.heap[b]? = some (.cells #[.int .u8 0, .string x.nm, .int .u16 (x.ty : Nat), .int .u16 (x.cl : Nat), .int .u8 (v.code : Nat), sv, ov, .int .i64 0, .int .i64 0] 46 (0, 0))) (hx : OkQ x) (hv : RawV w sv ov v) :
    IsActs w (some ⟨b, 0, none⟩) [⟨0, x, v, 0, 0, sv, ov⟩] := by
  refine ⟨by simp [maxLen], fun i hi => ?_⟩
  have hi0 : i = 0 := by simpa using hi
  subst hi0
  refine ⟨b, 0, rfl, lt_of_block h, fun j u hu => ?_, ⟨by show 0 < 256; omega, hx, hv, by show (-9223372036854775808 : Int) ≤ 0 ∧ (0 : Int) ≤ 9223372036854775807; omega, by show (-9223372036854775808 : Int) ≤ 0 ∧ (0 : Int) ≤ 9223372036854775807; omega⟩⟩
  rw [cell_of h]
  simpa [actV] using hu
theorem argk {k : IntKind} {w : World} {a : Option Addr} {len cap : Nat} {zs : List Int} (h : IsRow k w a len cap zs) : len ≤ maxLen ∧ ∀ i, i < len → ∃ b o, a = some ⟨b, o, none⟩ ∧ b < w.heap.size ∧ w.cell? ⟨b, o + i, none⟩ = some (.int k (zs.getD i 0)) ∧ (Lit.int k (zs.getD i 0)).wf = true := by
  rcases h with ⟨rfl, rfl, rfl, rfl⟩ | ⟨x, rfl, hl, hm, hz, hc, hw⟩
  · exact ⟨by simp, fun i h => absurd h (by simp)⟩
  · refine ⟨by omega, fun i hi => ?_⟩
    have h1 := hc i (by omega)
    have h0 := hc 0 (by omega)
    have hs := no_spot h0
    have hx : x = ⟨x.block, x.off, none⟩ := by
      have : x.spot = none := by simpa [Addr.add] using hs
      rw [← this]
    have e := add_flat x.block x.off i
    rw [← hx] at e
    rw [e] at h1
    have hb : x.block < w.heap.size := World.block_lt_of_cell? w ⟨x.block, x.off + i, none⟩ h1
    refine ⟨x.block, x.off, by rw [← hx], hb, h1, hw _ ?_⟩
    have hi3 : i < zs.length := by omega
    rw [List.getD_eq_getElem?_getD, List.getElem?_eq_getElem hi3]
    exact List.getElem_mem hi3
/-- How long a number makes last. -/
def lifeN (x : Int) : Nat := (x % 18446744073709551616).toNat % 1000 + 1
theorem life_eq (x : Int) : wrap64 (1 + wrap64 ((IntKind.u64.wrap x).tmod 1000)) = (lifeN x : Int) := by
  have e : IntKind.u64.wrap x = x % 18446744073709551616 := by rw [IntKind.wrap_u64]
  have h0 : 0 ≤ x % 18446744073709551616 := Int.emod_nonneg _ (by omega)
  rw [e, Int.tmod_eq_emod_of_nonneg h0]
  unfold lifeN
  have h1 : wrap64 (x % 18446744073709551616 % 1000) = x % 18446744073709551616 % 1000 := IntWalk.wrap64_in _ (by omega)
  rw [h1, IntWalk.wrap64_in _ (by omega)]
  omega
theorem life_in (x : Int) : 1 ≤ lifeN x ∧ lifeN x ≤ 1000 := by unfold lifeN; omega
theorem RawV.slices {w : World} {sv ov : Value} {v : Ver} (h : RawV w sv ov v) : ∃ sa sn sc oa on oc, sv = .slice sa sn sc ∧ ov = .slice oa on oc := by
  obtain ⟨a, c, e1⟩ := h.sets.slice
  obtain ⟨b, d, e2⟩ := h.soa.slice
  exact ⟨a, _, c, b, _, d, e1, e2⟩

theorem CK.own {a wr w' : World} (h : CK a wr) {S : List Nat} (hc : Chg S wr w') (hS : ∀ k ∈ S, a.heap.size ≤ k) : CK a w' := by
  refine ⟨Nat.le_trans h.1 hc.size, fun b c t f hb ht => ?_⟩
  refine hc.keep (h.2 b c t f hb ht) fun hs => ?_
  have h1 := hS b hs
  have h2 := lt_of_block hb
  omega
theorem grown_chg {wr w' : World} {v : Value} (hg : wr.grownBy w' v.ownBlock) : Chg v.ownBlock.toList wr w' := (Chg.refl _ wr).grown hg fun k hk => .inl (by simp [hk])
/-- A row of questions of one's own grew. -/
theorem Cabs.addq {w wr w' w9 : World} {P : Nat} {T : List Chn} {v : Value} {l : List Qn} (h : Cabs w wr P T) (ho : R.OwnR 24 3 qL w9.heap.size wr v l) (hb : w.heap.size ≤ w9.heap.size) (hg : wr.grownBy w' v.ownBlock) : Cabs w w' P T := by
  refine h.other (grown_chg hg) fun k hk => ?_
  have hk' : v.ownBlock = some k := by simpa [Option.mem_toList] using hk
  obtain ⟨h1, _, c, hc⟩ := ho.blk k hk'
  exact ⟨Nat.le_trans hb h1, _, ty_cells hc, by decide, by decide, by decide⟩
theorem CK.addq {w9 wr w' : World} {v : Value} {l : List Qn} (h : CK w9 wr) (ho : R.OwnR 24 3 qL w9.heap.size wr v l) (hg : wr.grownBy w' v.ownBlock) : CK w9 w' := by
  refine h.own (grown_chg hg) fun k hk => ?_
  have hk' : v.ownBlock = some k := by simpa [Option.mem_toList] using hk
  exact (ho.blk k hk').1
/-- CacheLasts' first loop. -/
def L1R (w w8 : World) (cb n mn tl : Nat) (c0 : Cst) (f : Qn) (v : Ver) (lif : Int) (uv pv i : Value) (wr : World) : Prop :=
  ∃ (j p : Nat) (U : List Qn) (c : Cst), j ≤ mn ∧ j ≤ tl ∧ i = .int .i64 (j : Nat) ∧ pv = .int .i64 (p : Nat) ∧ p ≤ 255 * j ∧ Cabs w wr (301 + j) [⟨cb, n, 1, 5, c⟩] ∧ R.OwnR 24 3 qL w8.heap.size wr uv U ∧ U.length ≤ j ∧ (∀ q ∈ U, OkQ q ∧ q.nm.size ≤ 3000) ∧ (c0.now ≤ halfT → LInv n f v (halfT + lif) c U (halfT + (p : Int))) ∧ CK w8 wr
/-- Its inner one. -/
def L2R (w1 : World) (U : List Qn) (q : Qn) (h k : Value) (wr : World) : Prop := ∃ j : Nat, j ≤ U.length ∧ k = .int .i64 (j : Nat) ∧ h = .bool (hereU U q j) ∧ Chg [] w1 wr
def L3R (l : List ActT) (w1 : World) (i : Value) (wr : World) : Prop := ∃ j : Nat, j ≤ l.length ∧ i = .int .i64 (j : Nat) ∧ (∀ a ∈ l.take j, a.now ≤ halfT) ∧ Chg [] w1 wr

/-- An act's box. -/
def AAt (w : World) (b k : Nat) (nm : ByteArray) (ty cl code : Nat) (sv ov : Value) (life now : Int) : Prop := w.heap[b]? = some (.cells #[.int .u8 (k : Nat), .string nm, .int .u16 (ty : Nat), .int .u16 (cl : Nat), .int .u8 (code : Nat), sv, ov, .int .i64 life, .int .i64 now] 46 (0, 0))
section
variable {w w' : World} {b k ty cl code : Nat} {nm : ByteArray} {sv ov : Value} {life now : Int}
theorem AAt.cchg (h : AAt w b k nm ty cl code sv ov life now) (hc : CChg w w') : AAt w' b k nm ty cl code sv ov life now := hc.keep h (by decide)
theorem AAt.same (h : AAt w b k nm ty cl code sv ov life now) (hc : Chg [] w w') : AAt w' b k nm ty cl code sv ov life now := hc.keep h (by simp)
theorem AAt.c9 (h : AAt w b k nm ty cl code sv ov life now) :
    w.cell? ⟨b, 1, none⟩ = some (.string nm) ∧ w.cell? ⟨b, 2, none⟩ = some (.int .u16 (ty : Nat)) ∧ w.cell? ⟨b, 3, none⟩ = some (.int .u16 (cl : Nat)) ∧ w.cell? ⟨b, 4, none⟩ = some (.int .u8 (code : Nat)) ∧ w.cell? ⟨b, 5, none⟩ = some sv ∧ w.cell? ⟨b, 6, none⟩ = some ov ∧ w.cell? ⟨b, 7, none⟩ = some (.int .i64 life) ∧ w.cell? ⟨b, 8, none⟩ = some (.int .i64 now) :=
  ⟨cell_of h, cell_of h, cell_of h, cell_of h, cell_of h, cell_of h, cell_of h, cell_of h⟩
theorem AAt.cq (h : AAt w b k nm ty cl code sv ov life now) : w.cell? ⟨b, 1, none⟩ = some (.string nm) ∧ w.cell? ⟨b, 2, none⟩ = some (.int .u16 (ty : Nat)) ∧ w.cell? ⟨b, 3, none⟩ = some (.int .u16 (cl : Nat)) := ⟨cell_of h, cell_of h, cell_of h⟩
theorem AAt.ne (h : AAt w b k nm ty cl code sv ov life now) {g : Nat} {c : Array Value} {f : Nat × Nat} (hq : w.heap[g]? = some (.cells c 34 f)) : b ≠ g := by
  intro e
  unfold AAt at h
  rw [e, hq] at h
  injection h with h
  injection h with _ h
  exact absurd h (by decide)
theorem AAt.out (h : AAt w b k nm ty cl code sv ov life now) {g : Nat} (hc : Chg [g] w w') (hne : b ≠ g) : AAt w' b k nm ty cl code sv ov life now := hc.keep h (by simpa using hne)
theorem AAt.c0 (h : AAt w b k nm ty cl code sv ov life now) : w.cell? ⟨b, 0, none⟩ = some (.int .u8 (k : Nat)) := cell_of h
end
/-- CacheReadings' loop: both caches hold the same. -/
def RdgR (w : World) (ca cb n len : Nat) (tv iv : Value) (wr : World) : Prop :=
  ∃ (j : Nat) (c : Cst), j ≤ len ∧ iv = .int .i64 (j : Nat) ∧ tv = .int .i64 c.now ∧ Cabs w wr (2 * j) [⟨ca, n, 4, 5, c⟩, ⟨cb, n, 4, 5, c⟩]

end Go.Proofs.Ytgdnfempcjlipaa
