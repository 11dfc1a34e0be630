/- Equal verdicts are told to be the same; questions held against each other. -/
import Derived.Test.YtgdnfempcjlipaaCacR
import Derived.Test.YtgdnfempcjlipaaBaseZ
namespace Go.Proofs.Ytgdnfempcjlipaa
open Go.RowKit Go.Maps

theorem strEq (s : ByteArray) : (s == s) = true := by
  cases s with
  | mk d => exact beq_self_eq_true d
theorem RdR.flat {α : Type} {f : α → List Value} {sz : Nat} (hf : ∀ x, (f x).length = sz) {w : World} {a : Option Addr} {n c : Nat} {l : List α} (h : RdR f w (.slice a n c) l) {i : Nat} (hi : i < l.length) (hsz : 0 < sz) : ∃ b o, a = some ⟨b, o, none⟩ ∧ b < w.heap.size ∧ ∀ j u, (f l[i])[j]? = some u → w.cell? ⟨b, o + (i * sz + j), none⟩ = some u := by
  obtain ⟨p, rfl, hp⟩ := h.cell hf hi hsz
  obtain ⟨u0, hu0⟩ : ∃ u0, (f l[i])[0]? = some u0 := ⟨_, List.getElem?_eq_getElem (by rw [hf l[i]]; exact hsz)⟩
  have h0 := hp 0 u0 hu0
  have hsp : p.spot = none := by
    have hi0 : 0 < l.length := by omega
    obtain ⟨p', e, hp0⟩ := h.cell hf hi0 hsz
    injection e with e
    subst e
    obtain ⟨u1, hu1⟩ : ∃ u1, (f l[0])[0]? = some u1 := ⟨_, List.getElem?_eq_getElem (by rw [hf l[0]]; exact hsz)⟩
    have := no_spot (hp0 0 u1 hu1)
    simpa [Addr.add] using this
  have he : p = ⟨p.block, p.off, none⟩ := by rw [← hsp]
  refine ⟨p.block, p.off, by rw [← he], ?_, fun j u hu => ?_⟩
  · have := World.block_lt_of_cell? _ _ h0
    rwa [block_add] at this
  · have h1 := hp j u hu
    have e2 := add_flat p.block p.off (i * sz + j)
    rw [← he] at e2
    rw [← e2]
    exact h1
def CntR (n : Nat) (w : World) (i : Value) (wr : World) : Prop := ∃ j : Nat, j ≤ n ∧ i = .int .i64 (j : Nat) ∧ Chg [] w wr
set_option maxRecDepth 100000 in
set_option maxHeartbeats 1000000 in
theorem same08_true (x : SetP) (v1 v2 : Value) (w : World) (hl : x.data.length ≤ 1000) (h1 : RdR strV w v1 x.data) (h2 : RdR strV w v2 x.data) :
    Calls Try.prog 62 #[.agg #[.string x.nm, .int .u16 (x.ty : Nat), .int .u16 (x.cl : Nat), .int .u32 (x.ttl : Nat), v1], .agg #[.string x.nm, .int .u16 (x.ty : Nat), .int .u16 (x.cl : Nat), .int .u32 (x.ttl : Nat), v2]] w fun e w' => e = .returned (.bool true) ∧ Chg [] w w' := by
  obtain ⟨nm, ty, cl, ttl, data⟩ := x
  simp only at hl h1 h2 ⊢
  obtain ⟨a1, c1, e1, _⟩ := id h1
  obtain ⟨a2, c2, e2, _⟩ := id h2
  subst e1
  subst e2
  obtain ⟨n, hn⟩ : ∃ n, n = data.length := ⟨_, rfl⟩
  have H1 := Lib.hid h1
  have H2 := Lib.hid h2
  have HN := Lib.hid hn
  rw [← hn] at hl ⊢
  clear h1 h2 hn
  have hse := strEq
  go_enter Try.func62, Try.ntmps62
  go_wp2_with fail
  obtain ⟨b1, hb1⟩ : ∃ b1, b1 = w.heap.size := ⟨_, rfl⟩
  rw [← hb1]
  refine wp_abs ?_
  intro w0 hw0
  have hc0 : Chg [] w w0 := by rw [hw0]; exact ((Chg.refl _ _).alloc _).alloc _
  have k1 : w0.cell? ⟨b1, 4, none⟩ = some (.slice a1 n c1) := by rw [hw0, hb1]; exact cell_of (heap_old (heap_new _ _))
  have k2 : w0.cell? ⟨b1 + 1, 4, none⟩ = some (.slice a2 n c2) := by rw [hw0, hb1]; exact cell_of (heap_new' _ _ _ (by simp))
  have HC0 := Lib.hid hc0
  have K1 := Lib.hid k1
  have K2 := Lib.hid k2
  clear hw0 hc0 hb1 k1 k2
  go_loopw [5] (fun i wr => CntR n w0 i wr) (fun i _ => n - (intOf i).toNat)
  case atStart => exact ⟨0, Nat.zero_le _, rfl, Chg.refl _ _⟩
  case round =>
    obtain ⟨j, hj, rfl, hck⟩ := hrel
    have k1 := hck.cell K1.out (by simp)
    have k2 := hck.cell K2.out (by simp)
    by_cases hlt : j < n
    · have hjd : j < data.length := by rw [← HN.out]; exact hlt
      obtain ⟨x1, o1, rfl, _, q1⟩ := H1.out.flat strV_len hjd (by omega)
      obtain ⟨x2, o2, rfl, _, q2⟩ := H2.out.flat strV_len hjd (by omega)
      obtain ⟨s, hs⟩ : ∃ s, s = data[j] := ⟨_, rfl⟩
      have d1 := hck.cell (HC0.out.cell (q1 0 (.string s) (by rw [hs]; rfl)) (by simp)) (by simp)
      have d2 := hck.cell (HC0.out.cell (q2 0 (.string s) (by rw [hs]; rfl)) (by simp)) (by simp)
      rw [Nat.mul_one, Nat.add_zero] at d1 d2
      clear q1 q2 hs
      go_wp2_with fail
      go_quiet (fail)
      go_wp2
      go_roundw
      case rel => first | exact ⟨j + 1, by omega, by go_num, hck.drewN _⟩ | ((repeat apply Exists.intro); exact ⟨⟨j + 1, by omega, by go_num, hck.drewN _⟩, rfl⟩)
      case measure => simp [intOf] <;> omega
    · obtain rfl : j = n := by omega
      have HFIN := Lib.hid (HC0.out.trans hck)
      go_wp2
      go_ret
      exact ⟨rfl, HFIN.out⟩

theorem c10_chg {w w' : World} {p0 p1 p2 p3 p4 p5 p6 p7 p8 p9 : Addr} {v0 v1 v2 v3 v4 v5 v6 v7 v8 v9 : Value} (h : w.cell? p0 = some v0 ∧ w.cell? p1 = some v1 ∧ w.cell? p2 = some v2 ∧ w.cell? p3 = some v3 ∧ w.cell? p4 = some v4 ∧ w.cell? p5 = some v5 ∧ w.cell? p6 = some v6 ∧ w.cell? p7 = some v7 ∧ w.cell? p8 = some v8 ∧ w.cell? p9 = some v9) (hc : Chg [] w w') :
    w'.cell? p0 = some v0 ∧ w'.cell? p1 = some v1 ∧ w'.cell? p2 = some v2 ∧ w'.cell? p3 = some v3 ∧ w'.cell? p4 = some v4 ∧ w'.cell? p5 = some v5 ∧ w'.cell? p6 = some v6 ∧ w'.cell? p7 = some v7 ∧ w'.cell? p8 = some v8 ∧ w'.cell? p9 = some v9 := by
  obtain ⟨h0, h1, h2, h3, h4, h5, h6, h7, h8, h9⟩ := h
  exact ⟨hc.cell h0 (by simp), hc.cell h1 (by simp), hc.cell h2 (by simp), hc.cell h3 (by simp), hc.cell h4 (by simp), hc.cell h5 (by simp), hc.cell h6 (by simp), hc.cell h7 (by simp), hc.cell h8 (by simp), hc.cell h9 (by simp)⟩
theorem setV_agg (x : SetP × Value) : (Value.agg #[.string x.1.nm, .int .u16 (x.1.ty : Nat), .int .u16 (x.1.cl : Nat), .int .u32 (x.1.ttl : Nat), x.2]) = .agg (setV x).toArray := rfl
set_option maxRecDepth 100000 in
set_option maxHeartbeats 1000000 in
theorem sameAll_true (v1 v2 : Value) (l : List SetP) (w : World) (h1 : RdSets w v1 l) (h2 : RdSets w v2 l) :
    Calls Try.prog 38 #[v1, v2] w fun e w' => e = .returned (.bool true) ∧ Chg [] w w' := by
  obtain ⟨hl, ds1, hd1, r1, x1⟩ := h1
  obtain ⟨_, ds2, hd2, r2, x2⟩ := h2
  obtain ⟨a1, c1, e1, _⟩ := id r1
  obtain ⟨a2, c2, e2, _⟩ := id r2
  subst e1
  subst e2
  have hn1 : ds1.length = l.length := by rw [← hd1]; simp
  have hn2 : ds2.length = l.length := by rw [← hd2]; simp
  have hg1 : ∀ i (h : i < ds1.length) (h' : i < l.length), ds1[i].1 = l[i] := by intro i h h'; simp only [← hd1, List.getElem_map]
  have hg2 : ∀ i (h : i < ds2.length) (h' : i < l.length), ds2[i].1 = l[i] := by intro i h h'; simp only [← hd2, List.getElem_map]
  obtain ⟨n, hn⟩ : ∃ n, n = l.length := ⟨_, rfl⟩
  rw [← hn] at hl hn1 hn2
  rw [hn1] at r1 ⊢
  rw [hn2] at r2 ⊢
  have R1 := Lib.hid r1
  have R2 := Lib.hid r2
  have X1 := Lib.hid x1
  have X2 := Lib.hid x2
  have HN := Lib.hid (And.intro hn (And.intro hn1 hn2))
  have HG := Lib.hid (And.intro hg1 hg2)
  clear r1 r2 x1 x2 hn hn1 hn2 hg1 hg2 hd1 hd2
  go_enter Try.func38, Try.ntmps38
  go_wp2_with fail
  go_loopw [5] (fun i wr => CntR n w i wr) (fun i _ => n - (intOf i).toNat)
  case atStart => exact ⟨0, Nat.zero_le _, rfl, Chg.refl _ _⟩
  case round =>
    obtain ⟨j, hj, rfl, hck⟩ := hrel
    by_cases hlt : j < n
    · have hj0 : j < l.length := by rw [← HN.out.1]; exact hlt
      have hj1 : j < ds1.length := by rw [HN.out.2.1]; exact hlt
      have hj2 : j < ds2.length := by rw [HN.out.2.2]; exact hlt
      obtain ⟨y1, o1, rfl, _, q1⟩ := R1.out.flat setV_len hj1 (by omega)
      obtain ⟨y2, o2, rfl, _, q2⟩ := R2.out.flat setV_len hj2 (by omega)
      have g1 := HG.out.1 j hj1 hj0
      have g2 := HG.out.2 j hj2 hj0
      have z1 := X1.out ds1[j] (List.getElem_mem hj1)
      have z2 := X2.out ds2[j] (List.getElem_mem hj2)
      obtain ⟨⟨s1, v1⟩, hs1⟩ : ∃ s, s = ds1[j] := ⟨_, rfl⟩
      obtain ⟨⟨s2, v2⟩, hs2⟩ : ∃ s, s = ds2[j] := ⟨_, rfl⟩
      rw [← hs1] at g1 z1 q1
      rw [← hs2] at g2 z2 q2
      simp only at g1 g2 z1 z2
      obtain ⟨s, hs⟩ : ∃ s, s = l[j] := ⟨_, rfl⟩
      rw [← hs] at g1 g2
      subst g1
      subst g2
      obtain ⟨b1, d1, e1, _⟩ := id z1.2
      obtain ⟨b2, d2, e2, _⟩ := id z2.2
      subst e1
      subst e2
      have hck' := hck
      have p0 : wr.cell? ⟨y1, o1 + j * 5, none⟩ = some (.string s2.nm) := hck.cell (q1 0 _ rfl) (by simp)
      have p1 : wr.cell? ⟨y1, o1 + j * 5 + 1, none⟩ = some (.int .u16 (s2.ty : Nat)) := by rw [Nat.add_assoc]; exact hck.cell (q1 1 _ rfl) (by simp)
      have p2 : wr.cell? ⟨y1, o1 + j * 5 + 2, none⟩ = some (.int .u16 (s2.cl : Nat)) := by rw [Nat.add_assoc]; exact hck.cell (q1 2 _ rfl) (by simp)
      have p3 : wr.cell? ⟨y1, o1 + j * 5 + 3, none⟩ = some (.int .u32 (s2.ttl : Nat)) := by rw [Nat.add_assoc]; exact hck.cell (q1 3 _ rfl) (by simp)
      have p4 : wr.cell? ⟨y1, o1 + j * 5 + 4, none⟩ = some (.slice b1 s2.data.length d1) := by rw [Nat.add_assoc]; exact hck.cell (q1 4 _ rfl) (by simp)
      have r0 : wr.cell? ⟨y2, o2 + j * 5, none⟩ = some (.string s2.nm) := hck.cell (q2 0 _ rfl) (by simp)
      have r1 : wr.cell? ⟨y2, o2 + j * 5 + 1, none⟩ = some (.int .u16 (s2.ty : Nat)) := by rw [Nat.add_assoc]; exact hck.cell (q2 1 _ rfl) (by simp)
      have r2 : wr.cell? ⟨y2, o2 + j * 5 + 2, none⟩ = some (.int .u16 (s2.cl : Nat)) := by rw [Nat.add_assoc]; exact hck.cell (q2 2 _ rfl) (by simp)
      have r3 : wr.cell? ⟨y2, o2 + j * 5 + 3, none⟩ = some (.int .u32 (s2.ttl : Nat)) := by rw [Nat.add_assoc]; exact hck.cell (q2 3 _ rfl) (by simp)
      have r4 : wr.cell? ⟨y2, o2 + j * 5 + 4, none⟩ = some (.slice b2 s2.data.length d2) := by rw [Nat.add_assoc]; exact hck.cell (q2 4 _ rfl) (by simp)
      have S0 : Hid (wr.cell? ⟨y1, o1 + j * 5, none⟩ = some (.string s2.nm) ∧ wr.cell? ⟨y1, o1 + j * 5 + 1, none⟩ = some (.int .u16 (s2.ty : Nat)) ∧ wr.cell? ⟨y1, o1 + j * 5 + 2, none⟩ = some (.int .u16 (s2.cl : Nat)) ∧ wr.cell? ⟨y1, o1 + j * 5 + 3, none⟩ = some (.int .u32 (s2.ttl : Nat)) ∧ wr.cell? ⟨y1, o1 + j * 5 + 4, none⟩ = some (.slice b1 s2.data.length d1) ∧ wr.cell? ⟨y2, o2 + j * 5, none⟩ = some (.string s2.nm) ∧ wr.cell? ⟨y2, o2 + j * 5 + 1, none⟩ = some (.int .u16 (s2.ty : Nat)) ∧ wr.cell? ⟨y2, o2 + j * 5 + 2, none⟩ = some (.int .u16 (s2.cl : Nat)) ∧ wr.cell? ⟨y2, o2 + j * 5 + 3, none⟩ = some (.int .u32 (s2.ttl : Nat)) ∧ wr.cell? ⟨y2, o2 + j * 5 + 4, none⟩ = some (.slice b2 s2.data.length d2)) := Lib.hid ⟨p0, p1, p2, p3, p4, r0, r1, r2, r3, r4⟩
      have hcl := same08_true s2 _ _ wr.drew z1.1.len (z1.2.same hck.drew) (z2.2.same hck.drew)
      have HCL := Lib.hid hcl
      have HCK := Lib.hid hck
      clear q1 q2 z1 z2 hs hs1 hs2 hcl p0 p1 p2 p3 p4 r0 r1 r2 r3 r4 hck hck'
      go_wp2_with fail
      go_region_held3 (fun W => W.cell? ⟨y1, o1 + j * 5, none⟩ = some (.string s2.nm) ∧ W.cell? ⟨y1, o1 + j * 5 + 1, none⟩ = some (.int .u16 (s2.ty : Nat)) ∧ W.cell? ⟨y1, o1 + j * 5 + 2, none⟩ = some (.int .u16 (s2.cl : Nat)) ∧ W.cell? ⟨y1, o1 + j * 5 + 3, none⟩ = some (.int .u32 (s2.ttl : Nat)) ∧ W.cell? ⟨y1, o1 + j * 5 + 4, none⟩ = some (.slice b1 s2.data.length d1) ∧ W.cell? ⟨y2, o2 + j * 5, none⟩ = some (.string s2.nm) ∧ W.cell? ⟨y2, o2 + j * 5 + 1, none⟩ = some (.int .u16 (s2.ty : Nat)) ∧ W.cell? ⟨y2, o2 + j * 5 + 2, none⟩ = some (.int .u16 (s2.cl : Nat)) ∧ W.cell? ⟨y2, o2 + j * 5 + 3, none⟩ = some (.int .u32 (s2.ttl : Nat)) ∧ W.cell? ⟨y2, o2 + j * 5 + 4, none⟩ = some (.slice b2 s2.data.length d2)) (first | (with_reducible exact S9.out) | exact S0.out) (first | (go_at_call 62; refine HCL.out.mono ?_; rintro e9 w9 ⟨rfl, hc9⟩; replace hc9 := hc9.undrew; have S9 := Lib.hid (c10_chg S0.out hc9)))
      have HC9 := Lib.hid (HCK.out.trans hc9)
      clear hc9 S0 S9
      go_wp2
      go_roundw
      case rel => exact ⟨j + 1, by omega, by go_num, HC9.out⟩
      case measure => simp [intOf] <;> omega
    · obtain rfl : j = n := by omega
      have HFIN := Lib.hid hck
      go_wp2
      go_ret
      exact ⟨rfl, HFIN.out⟩

end Go.Proofs.Ytgdnfempcjlipaa
