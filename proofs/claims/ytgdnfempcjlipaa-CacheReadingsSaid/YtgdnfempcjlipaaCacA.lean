/- Verdicts in memory: what a slice reads as; rows of the call's own; copies. -/
import Derived.Test.YtgdnfempcjlipaaCacPl
import Derived.Test.YtgdnfempcjlipaaBaseZ
import Derived.Test.YtgdnfempcjlipaaBaseZ
import Derived.Lib.SliceRun
import Derived.Lib.Walk
namespace Go.Proofs.Ytgdnfempcjlipaa
open Go.RowKit

theorem info_sizes {P : Program} {t : TypeId} {s n b : Nat} (h : (P.info? t).map (fun i => (i.zero.map fun z => z.cells.size, i.size, i.bytes)) = some (some s, n, b)) : ∃ i z, P.info? t = some i ∧ i.zero = some z ∧ i.size = n ∧ i.bytes = b ∧ z.cells.size = s := by
  cases hi : P.info? t with
  | none => simp [hi] at h
  | some i =>
    rw [hi] at h
    simp only [Option.map_some, Option.some.injEq, Prod.mk.injEq] at h
    obtain ⟨h1, h2, h3⟩ := h
    obtain ⟨z, hz, hs⟩ := Option.map_eq_some_iff.1 h1
    exact ⟨i, z, rfl, hz, h2, h3, hs⟩

theorem post_abs {Q : Exit → Act → World → Prop} {e : Exit} {a : Act} {w : World} (h : ∀ w', w' = w → Q e a w') : Q e a w := h w rfl
/-- The slice v reads as records of l, as f lays them. -/
def RdR {α : Type} (f : α → List Value) (w : World) (v : Value) (l : List α) : Prop :=
  ∃ a c, v = .slice a l.length c ∧ (a = none → c = 0) ∧ (l.flatMap f ≠ [] → a ≠ none) ∧ ∀ p, a = some p → ∀ j u, (l.flatMap f)[j]? = some u → w.cell? (p.add j) = some u
theorem RdR.of {α : Type} {t : TypeId} {sz : Nat} {f : α → List Value} {base : Nat} {w : World} {v : Value} {l : List α} (h : R.OwnR t sz f base w v l) : RdR f w v l := by
  obtain ⟨a, c, rfl⟩ := h.len
  obtain ⟨s1, s2, s3⟩ := h.src
  exact ⟨a, c, rfl, s1, s2, s3⟩
theorem RdR.chg {α : Type} {f : α → List Value} {w w' : World} {v : Value} {l : List α} {S : List Nat} (h : RdR f w v l) (hc : Chg S w w') (hS : ∀ a n c, v = .slice (some a) n c → a.block ∉ S) : RdR f w' v l := by
  obtain ⟨a, c, rfl, h1, h2, h3⟩ := h
  refine ⟨a, c, rfl, h1, h2, fun p hp j u hu => hc.cell (h3 p hp j u hu) ?_⟩
  subst hp
  have e : (p.add j).block = p.block := by unfold Addr.add; split <;> rfl
  rw [e]
  exact hS p _ _ rfl
theorem RdR.same {α : Type} {f : α → List Value} {w w' : World} {v : Value} {l : List α} (h : RdR f w v l) (hc : Chg [] w w') : RdR f w' v l := h.chg hc (by simp)
theorem RdR.cell {α : Type} {f : α → List Value} {sz : Nat} (hf : ∀ x, (f x).length = sz) {w : World} {a : Option Addr} {n c : Nat} {l : List α} (h : RdR f w (.slice a n c) l) {i : Nat} (hi : i < l.length) (hsz : 0 < sz) : ∃ p, a = some p ∧ ∀ j u, (f l[i])[j]? = some u → w.cell? (p.add (i * sz + j)) = some u := by
  obtain ⟨a', c', e, h1, h2, h3⟩ := h
  injection e with e1 e2 e3
  subst e1
  have hne : l.flatMap f ≠ [] := by
    intro h0
    have := R.flat_len f sz hf l
    rw [h0] at this
    have : 0 < l.length * sz := Nat.mul_pos (by omega) hsz
    simp at *
    omega
  cases a with
  | none => exact absurd rfl (h2 hne)
  | some p =>
    refine ⟨p, rfl, fun j u hu => h3 p rfl _ _ ?_⟩
    have hj : j < sz := by
      rcases Nat.lt_or_ge j sz with hh | hh
      · exact hh
      · rw [List.getElem?_eq_none (by rw [hf]; exact hh)] at hu; cases hu
    rw [R.flat_get f sz hf l i hi j hj]
    exact hu

def strV (s : ByteArray) : List Value := [.string s]
theorem strV_len (s : ByteArray) : (strV s).length = 1 := rfl
/-- A set's five cells: the set, and its row of data. -/
def setV (x : SetP × Value) : List Value := [.string x.1.nm, .int .u16 (x.1.ty : Nat), .int .u16 (x.1.cl : Nat), .int .u32 (x.1.ttl : Nat), x.2]
theorem setV_len (x : SetP × Value) : (setV x).length = 5 := rfl
theorem one_of {α : Type} {f : α → List Value} (hf : ∀ x, ∀ u ∈ f x, u.oneCell' = true) (l : List α) : ∀ u ∈ l.flatMap f, u.oneCell' = true := by
  intro u hu
  obtain ⟨x, _, hx⟩ := List.mem_flatMap.1 hu
  exact hf x u hx
theorem str_one (l : List ByteArray) : ∀ u ∈ l.flatMap strV, u.oneCell' = true := one_of (fun x u hu => by simp [strV] at hu; subst hu; rfl) l

/-- What is read at a verdict's sets: numbers that may be; rows that are not too long. -/
structure OkSet (x : SetP) : Prop where
  ty : x.ty < 65536
  cl : x.cl < 65536
  ttl : x.ttl < 4294967296
  len : x.data.length ≤ 1000
def sliceB : Value → Bool | .slice _ _ _ => true | _ => false
theorem slice_one {v : Value} (h : sliceB v = true) : v.oneCell' = true := by cases v <;> simp_all [sliceB, Value.oneCell']
theorem RdR.slice {α : Type} {f : α → List Value} {w : World} {v : Value} {l : List α} (h : RdR f w v l) : sliceB v = true := by obtain ⟨a, c, rfl, _⟩ := h; rfl
/-- The slice v reads as these sets. -/
def RdSets (w : World) (v : Value) (l : List SetP) : Prop :=
  l.length ≤ 1000 ∧ ∃ ds : List (SetP × Value), ds.map (·.1) = l ∧ RdR setV w v ds ∧ ∀ x ∈ ds, OkSet x.1 ∧ RdR strV w x.2 x.1.data
structure RdV (w : World) (code : Int) (sv ov : Value) (v : Ver) : Prop where
  code : code = (v.code : Int)
  lt : v.code < 256
  sets : RdSets w sv v.sets
  soa : RdSets w ov v.soa
theorem RdSets.same {w w' : World} {v : Value} {l : List SetP} (h : RdSets w v l) (hc : Chg [] w w') : RdSets w' v l := by
  obtain ⟨h0, ds, h1, h2, h3⟩ := h
  exact ⟨h0, ds, h1, h2.same hc, fun x hx => ⟨(h3 x hx).1, (h3 x hx).2.same hc⟩⟩
theorem RdV.same {w w' : World} {code : Int} {sv ov : Value} {v : Ver} (h : RdV w code sv ov v) (hc : Chg [] w w') : RdV w' code sv ov v := ⟨h.code, h.lt, h.sets.same hc, h.soa.same hc⟩

/-- Blocks that are no sets and no strings. -/
def NoSet (S : List Nat) (w : World) : Prop := ∀ k ∈ S, ∀ c t f, w.heap[k]? = some (.cells c t f) → t ≠ 84 ∧ t ≠ 9
theorem noSet_nil (w : World) : NoSet [] w := fun k hk => by cases hk
/-- The slice v is a row of sets of a call's own. -/
def OwnSets (base : Nat) (w : World) (v : Value) (l : List SetP) : Prop :=
  l.length ≤ 1000 ∧ ∃ ds : List (SetP × Value), ds.map (·.1) = l ∧ R.OwnR 84 5 setV base w v ds ∧ ∀ x ∈ ds, OkSet x.1 ∧ R.OwnR 9 1 strV base w x.2 x.1.data
theorem OwnSets.rd {base : Nat} {w : World} {v : Value} {l : List SetP} (h : OwnSets base w v l) : RdSets w v l := by
  obtain ⟨h0, ds, h1, h2, h3⟩ := h
  exact ⟨h0, ds, h1, RdR.of h2, fun x hx => ⟨(h3 x hx).1, RdR.of (h3 x hx).2⟩⟩
theorem OwnSets.low {base B : Nat} {w : World} {v : Value} {l : List SetP} (h : OwnSets base w v l) (hB : B ≤ base) : OwnSets B w v l := by
  obtain ⟨h0, ds, h1, h2, h3⟩ := h
  exact ⟨h0, ds, h1, h2.low hB, fun x hx => ⟨(h3 x hx).1, (h3 x hx).2.low hB⟩⟩
theorem OwnSets.chg {base : Nat} {w w' : World} {v : Value} {l : List SetP} {S : List Nat} (h : OwnSets base w v l) (hc : Chg S w w') (hS : NoSet S w) : OwnSets base w' v l := by
  obtain ⟨h0, ds, h1, h2, h3⟩ := h
  refine ⟨h0, ds, h1, h2.chg hc fun g hg hk => ?_, fun x hx => ⟨(h3 x hx).1, (h3 x hx).2.chg hc fun g hg hk => ?_⟩⟩
  · obtain ⟨_, _, c, hh⟩ := h2.blk g hg
    exact (hS g hk _ _ _ hh).1 rfl
  · obtain ⟨_, _, c, hh⟩ := (h3 x hx).2.blk g hg
    exact (hS g hk _ _ _ hh).2 rfl
theorem OwnSets.same {base : Nat} {w w' : World} {v : Value} {l : List SetP} (h : OwnSets base w v l) (hc : Chg [] w w') : OwnSets base w' v l := h.chg hc (noSet_nil w)
theorem OwnSets.nil (base : Nat) (w : World) : OwnSets base w (.slice none 0 0) [] := ⟨by simp, [], rfl, R.OwnR.nil _ _ _ _ _, by simp⟩
structure OwnV (base : Nat) (w : World) (code : Int) (sv ov : Value) (v : Ver) : Prop where
  code : code = (v.code : Int)
  lt : v.code < 256
  sets : OwnSets base w sv v.sets
  soa : OwnSets base w ov v.soa
theorem OwnV.rd {base : Nat} {w : World} {code : Int} {sv ov : Value} {v : Ver} (h : OwnV base w code sv ov v) : RdV w code sv ov v := ⟨h.code, h.lt, h.sets.rd, h.soa.rd⟩
theorem OwnV.chg {base : Nat} {w w' : World} {code : Int} {sv ov : Value} {v : Ver} {S : List Nat} (h : OwnV base w code sv ov v) (hc : Chg S w w') (hS : NoSet S w) : OwnV base w' code sv ov v := ⟨h.code, h.lt, h.sets.chg hc hS, h.soa.chg hc hS⟩
theorem OwnV.low {base B : Nat} {w : World} {code : Int} {sv ov : Value} {v : Ver} (h : OwnV base w code sv ov v) (hB : B ≤ base) : OwnV B w code sv ov v := ⟨h.code, h.lt, h.sets.low hB, h.soa.low hB⟩

theorem elem_str : (Try.prog.info? 9).map (fun i => (i.zero.map fun z => z.cells.size, i.size, i.bytes)) = some (some 1, 1, 16) := by kernel_rfl
theorem elem_set : (Try.prog.info? 84).map (fun i => (i.zero.map fun z => z.cells.size, i.size, i.bytes)) = some (some 5, 5, 48) := by kernel_rfl
set_option maxRecDepth 100000 in
set_option maxHeartbeats 2000000 in
theorem clone_str (v : Value) (l : List ByteArray) (w : World) (h : RdR strV w v l) (hl : l.length ≤ 1000) :
    Calls Try.prog 73 #[v] w fun e w' => ∃ v', e = .returned v' ∧ R.OwnR 9 1 strV w.heap.size w' v' l ∧ Chg [] w w' := by
  obtain ⟨a, c, rfl, s1, s2, s3⟩ := h
  have q22 := fun (w : World) (a : Option Addr) (n c n' c' : Nat) => Lib.run_eql_slice_nil (P := Try.prog) w 81 _ a n c n' c' Try.underlying81
  obtain ⟨i0, z, hi0, hz0, hz1, hz2, hz3⟩ := info_sizes elem_str
  have hone := str_one l
  have hfl : (l.flatMap strV).length = l.length * 1 := R.flat_len strV 1 strV_len l
  cases a with
  | none =>
    obtain rfl := s1 rfl
    have h0 : l.flatMap strV = [] := Classical.byContradiction fun hh => s2 hh rfl
    have hll : l = [] := by
      cases l with
      | nil => rfl
      | cons x l => rw [h0] at hfl; simp at hfl
    subst hll
    clear s1 s2 s3 hone hfl h0
    go_enter Try.func73, Try.ntmps73
    go_wp2
    go_ret
    exact ⟨_, rfl, R.OwnR.nil _ _ _ _ _, Chg.refl _ _⟩
  | some p =>
    have S3 := Lib.hid (s3 p rfl)
    have HFL := Lib.hid hfl
    have HONE := Lib.hid hone
    clear s1 s2 s3 hone hfl
    obtain ⟨xs, hxs⟩ : ∃ xs, xs = l.flatMap strV := ⟨_, rfl⟩
    rw [← hxs] at S3 HFL HONE
    go_enter Try.func73, Try.ntmps73
    go_wp2_with (at_builtin; refine wpList_append_own _ rfl _ _ 81 rfl w.heap.size 9 i0 z 1 16 Try.underlying81 hi0 hz0 hz1 hz2 hz3 (by omega) _ _ _ rfl (World.ownsRow_made w #[] 0 (Nat.le_refl _) (Nat.zero_le _) (by simp)) p l.length c xs rfl ?qc1 ?qc2 ?qc3 ?qc4 ?qc5 ?qc6 ?_)
    case qc1 => exact HFL.out
    case qc2 => exact fun j u hj => ((Chg.refl [] w).alloc _).cell (S3.out j u hj) (by simp)
    case qc3 => exact HONE.out
    case qc4 => unfold maxLen; omega
    case qc5 => omega
    case qc6 => simp
    intro v' w1 hown hgrow _
    go_wp2
    go_ret
    refine ⟨v', rfl, ?_, ?_⟩
    · unfold R.OwnR
      simpa [hxs] using hown
    · exact ((Chg.refl [] w).alloc _).grown hgrow (fun k hk => by simp [Value.ownBlock] at hk; right; omega)
set_option maxRecDepth 100000 in
set_option maxHeartbeats 2000000 in
theorem clone_set (v : Value) (l : List (SetP × Value)) (w : World) (h : RdR setV w v l) (hl : l.length ≤ 1000) (hsl : ∀ x ∈ l, sliceB x.2 = true) :
    Calls Try.prog 72 #[v] w fun e w' => ∃ v', e = .returned v' ∧ R.OwnR 84 5 setV w.heap.size w' v' l ∧ Chg [] w w' := by
  obtain ⟨a, c, rfl, s1, s2, s3⟩ := h
  have q22 := fun (w : World) (a : Option Addr) (n c n' c' : Nat) => Lib.run_eql_slice_nil (P := Try.prog) w 32 _ a n c n' c' Try.underlying32
  obtain ⟨i0, z, hi0, hz0, hz1, hz2, hz3⟩ := info_sizes elem_set
  have hone : ∀ u ∈ l.flatMap setV, u.oneCell' = true := by
    intro u hu
    obtain ⟨x, hx, hu⟩ := List.mem_flatMap.1 hu
    simp [setV] at hu
    rcases hu with rfl | rfl | rfl | rfl | rfl
    all_goals first | rfl | exact slice_one (hsl x hx)
  have hfl : (l.flatMap setV).length = l.length * 5 := R.flat_len setV 5 setV_len l
  clear hsl
  cases a with
  | none =>
    obtain rfl := s1 rfl
    have h0 : l.flatMap setV = [] := Classical.byContradiction fun hh => s2 hh rfl
    have hll : l = [] := by
      cases l with
      | nil => rfl
      | cons x l => rw [h0] at hfl; simp at hfl
    subst hll
    clear s1 s2 s3 hone hfl h0
    go_enter Try.func72, Try.ntmps72
    go_wp2
    go_ret
    exact ⟨_, rfl, R.OwnR.nil _ _ _ _ _, Chg.refl _ _⟩
  | some p =>
    have S3 := Lib.hid (s3 p rfl)
    have HFL := Lib.hid hfl
    have HONE := Lib.hid hone
    clear s1 s2 s3 hone hfl
    obtain ⟨xs, hxs⟩ : ∃ xs, xs = l.flatMap setV := ⟨_, rfl⟩
    rw [← hxs] at S3 HFL HONE
    go_enter Try.func72, Try.ntmps72
    go_wp2_with (at_builtin; refine wpList_append_own _ rfl _ _ 32 rfl w.heap.size 84 i0 z 5 48 Try.underlying32 hi0 hz0 hz1 hz2 hz3 (by omega) _ _ _ rfl (World.ownsRow_made w #[] 0 (Nat.le_refl _) (Nat.zero_le _) (by simp)) p l.length c xs rfl ?qc1 ?qc2 ?qc3 ?qc4 ?qc5 ?qc6 ?_)
    case qc1 => exact HFL.out
    case qc2 => exact fun j u hj => ((Chg.refl [] w).alloc _).cell (S3.out j u hj) (by simp)
    case qc3 => exact HONE.out
    case qc4 => unfold maxLen; omega
    case qc5 => omega
    case qc6 => simp
    intro v' w1 hown hgrow _
    go_wp2
    go_ret
    refine ⟨v', rfl, ?_, ?_⟩
    · unfold R.OwnR
      simpa [hxs] using hown
    · exact ((Chg.refl [] w).alloc _).grown hgrow (fun k hk => by simp [Value.ownBlock] at hk; right; omega)

end Go.Proofs.Ytgdnfempcjlipaa
