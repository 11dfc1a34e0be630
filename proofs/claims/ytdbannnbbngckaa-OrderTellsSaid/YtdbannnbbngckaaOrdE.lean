/- The walk of Order, where somebody may be asked. -/
import Derived.Test.YtdbannnbbngckaaOrdD
namespace Go.Proofs.Ytdbannnbbngckaa
open Go.RowKit

theorem owns_base {w : World} {base base' : Nat} {t : TypeId} {sz : Nat} {v : Value} {n : Nat} {xs : List Value} (h : w.ownsRow base t sz v n xs) (hb : base' ≤ base) : w.ownsRow base' t sz v n xs := by
  obtain ⟨h1, h2⟩ := h
  refine ⟨h1, ?_⟩
  rcases h2 with h2 | ⟨g, cap, cur, hv, hg, hh, r⟩
  · exact .inl h2
  · exact .inr ⟨g, cap, cur, hv, by omega, hh, r⟩

theorem may_of_own {base : Nat} {w : World} {a : Option Addr} {c : Nat} {ml : List Nat} (h : OwnI base w (.slice a ml.length c) ml) (hp : 0 < ml.length) : ∃ rb, a = some ⟨rb, 0, none⟩ ∧ base ≤ rb ∧ rb < w.heap.size ∧ MayAt w rb ml := by
  have hr := row_of_own h
  obtain ⟨_, h⟩ := h
  rcases h with ⟨_, hn⟩ | ⟨g, cap, cur, hv, hg, hb, _⟩
  · omega
  · injection hv with hv1 hv2 hv3
    subst hv1
    refine ⟨g, rfl, hg, lt_of_block hb, ?_⟩
    rcases hr with ⟨he, _⟩ | ⟨r, c', hv', hx⟩
    · rw [he] at hp; simp at hp
    · injection hv' with hv1 _ _
      injection hv1 with hv1
      injection hv1 with hv1 _ _
      subst hv1
      exact hx

theorem ents_of_own {sc : Nat → Nat} {tr : Nat → Bool} {w : World} {g k m : Nat} {row : List Nat} (h : w.ownsRow g 71 3 (.slice (some ⟨g, 0, none⟩) k m) k (entsV sc tr row)) (hp : 0 < k) : EntsAt sc tr w g row := by
  obtain ⟨hl, h⟩ := h
  rcases h with ⟨hv, _⟩ | ⟨g', cap, cur, hv, hg, hb, h1, h2, h3, h4⟩
  · cases hv
  · injection hv with hv1 hv2 hv3
    injection hv1 with hv1
    injection hv1 with hv1 _ _
    subst hv1
    refine ⟨cur.toList.drop (k * 3), ?_⟩
    rw [hb, ← h4, List.take_append_drop]
theorem own_blk {w : World} {g k m : Nat} {xs : List Value} (h : w.ownsRow g 71 3 (.slice (some ⟨g, 0, none⟩) k m) k xs) : ∃ c, w.heap[g]? = some (.cells c 71 (0, 0)) := by
  obtain ⟨hl, h⟩ := h
  rcases h with ⟨hv, _⟩ | ⟨g', cap, cur, hv, hg, hb, h1, h2, h3, h4⟩
  · cases hv
  · injection hv with hv1 hv2 hv3
    injection hv1 with hv1
    injection hv1 with hv1 _ _
    subst hv1
    exact ⟨cur, hb⟩

set_option maxRecDepth 100000 in
set_option maxHeartbeats 4000000 in
theorem order_some (b r L R t seed used : Nat) (l : List Nat) (us : List Up) (w : World) (h : Book w b r L R us) (ht : D.TapeAt w t seed l used) (hu : used < 4000000000000000000) (hpos : 0 < (mayN us).length) :
    Calls Try.prog 12 #[.pointer (some ⟨b, 0, none⟩), .pointer (some ⟨t, 0, none⟩)] w (OrderPost b r L R t seed used l us (ordN us (D.drawN seed l) used) w) := by
  obtain ⟨ml, hml⟩ : ∃ ml, mayN us = ml := ⟨_, rfl⟩
  obtain ⟨sh, hsh⟩ : ∃ sh, sh = D.shufN (D.drawN seed l) used ml.length := ⟨_, rfl⟩
  obtain ⟨row, hrow⟩ : ∃ row, row = sh.map fun i => ml.getD i 0 := ⟨_, rfl⟩
  obtain ⟨ord, hord⟩ : ∃ ord, ord = ordK (keyE (scU us) (trU us)) row := ⟨_, rfl⟩
  have hO : ordN us (D.drawN seed l) used = ord := by rw [hord, hrow, hsh, ← hml]; rfl
  rw [hO]
  rw [hml] at hpos
  have hlen := h.len
  have hm9 : ml.length ≤ 9 := by rw [← hml]; exact Nat.le_trans (idxN_len _ _ _) hlen
  have hshl : sh.length = ml.length := by rw [hsh, D.shufN_length]
  have hrl : row.length = ml.length := by rw [hrow, List.length_map, hshl]
  have hol : ord.length = ml.length := by rw [hord, ordK_length, hrl]
  have hslt : ∀ i (hi : i < sh.length), sh[i] < ml.length := fun i hi => D.shufN_lt _ _ _ hpos _ (by rw [← hsh]; exact List.getElem_mem hi)
  have hget : ∀ i (hi : i < sh.length), row.take (i + 1) = row.take i ++ [ml.getD sh[i] 0] := fun i hi => by
    rw [List.take_succ_eq_append_getElem (by omega)]
    congr 2
    simp [hrow]
  have hsc := scU_le h.ok
  have HML := Lib.hid hml
  have HSH := Lib.hid hsh
  have HORD := Lib.hid hord
  have HLEN := Lib.hid (And.intro hshl (And.intro hrl hol))
  have HSLT := Lib.hid hslt
  have HGET := Lib.hid hget
  have HSC := Lib.hid hsc
  obtain ⟨i0, hi0, hz0, hz1, hz2⟩ := info_parts Try.elemEnt
  obtain ⟨j0, hj0, hy0, hy1, hy2⟩ := info_parts Try.elemInt
  have htl := ht.lt
  have hbl := h.lt
  have hrlt := h.ltr
  have hbt : b ≠ t := (tape_book ht h).1
  have hrt : r ≠ t := (tape_book ht h).2
  clear hml hsh hrow hord hO hlen hshl hrl hol hslt hget hsc
  go_enter Try.func12, Try.ntmps12
  go_wp2_with fail
  refine (may_v b r L R us _ ml h HML).mono ?_
  rintro e w1 ⟨a1, c1, rfl, own1, hc1⟩
  obtain ⟨rb, ha1, hrbw, hrb1, hmay1⟩ := may_of_own own1 hpos
  subst ha1
  have b1 := h.chg hc1 (by simp) (by simp)
  have t1 := ht.chg hc1 (by simp) (by simp)
  have hs1 : w.heap.size ≤ w1.heap.size := hc1.size
  clear h ht own1
  obtain ⟨gE, hgE⟩ : ∃ gE, gE = w1.heap.size := ⟨_, rfl⟩
  have hmI : (ml.length : Int) ≤ 9 := by omega
  go_wp2_with (at_make; refine wpList_make_own _ rfl _ _ 69 rfl w1.heap.size 71 i0 _ 3 Try.underlying69 hi0 hz0 hz1 .i64 .i64 _ ml.length rfl rfl rfl (by rw [hz2]; omega) (by unfold maxLen; omega) (Nat.le_refl _) ?_; intro w2 own2 hg2)
  have hc2 : Chg [] w1 w2 := (Chg.refl _ _).grown hg2 (by simp)
  have b2 := b1.chg hc2 (by simp) (by simp)
  have t2 := t1.chg hc2 (by simp) (by simp)
  have m2 := hmay1.chg hc2 (by simp)
  have hC2 : Chg [] w w2 := hc1.trans hc2
  rw [← hgE] at own2 ⊢
  obtain ⟨cE, hcE⟩ := own_blk own2
  have hgE2 : gE < w2.heap.size := lt_of_block hcE
  have OWN2 := Lib.hid own2
  have M2 := Lib.hid m2
  clear b1 t1 own2 hg2 hc1 hc2 hmay1 m2 hcE
  refine (D.shuffle_any t seed l used ml.length _ t2 hu hpos (by omega)).mono ?_
  rintro e w3 ⟨rfl, s3, t3, hc3⟩
  obtain ⟨sb, hsb⟩ : ∃ sb, sb = w2.heap.size := ⟨_, rfl⟩
  rw [← hsb] at s3 ⊢
  rw [← HSH.out] at s3
  have b3 := b2.chg hc3 (by simpa using hbt) (by simpa using hrt)
  have hrbt : rb ≠ t := by omega
  have hget2 : gE ≠ t := by omega
  have m3 := M2.out.chg hc3 (by simpa using hrbt)
  have own3 := owns_chg OWN2.out hc3 (by simp; omega)
  have hC3 : Chg [t] w w3 := (hC2.mono (by simp)).trans hc3
  obtain ⟨u', hu'⟩ : ∃ u', u' = used + (ml.length - 1) := ⟨_, rfl⟩
  rw [← hu'] at t3
  have HU := Lib.hid hu'
  have hsbg : sb ≠ gE := by omega
  have hsbt : sb ≠ t := by omega
  have hrbg : rb ≠ gE := by omega
  have hbg : b ≠ gE := by omega
  have hrg : r ≠ gE := by omega
  have htg : t ≠ gE := by omega
  have hgw : w.heap.size ≤ gE := by omega
  have ST3 : Hid (Ord1 w w3 gE sb rb t b r L R seed u' ml.length 0 l us ml sh row) := Lib.hid ⟨own3, b3, t3, m3, s3, hC3, own_blk own3⟩
  clear b2 t2 hC2 OWN2 M2 s3 t3 hc3 b3 m3 own3 hC3 hu' hsb hrb1 hs1 hgE2 hgE
  go_wp2_with fail
  go_loopw [6, 29] (OrdR1 w gE sb rb t b r L R seed u' ml.length l us ml sh row) (fun _ i _ => ml.length - (intOf i).toNat)
  case atStart => exact ⟨0, Nat.zero_le _, rfl, rfl, ST3.out⟩
  case round =>
    clear ST3
    obtain ⟨k, hk, rfl, rfl, hst⟩ := hrel
    by_cases hkm : k < ml.length
    · have hks : k < sh.length := by rw [HLEN.out.1]; exact hkm
      obtain ⟨s, hs⟩ : ∃ s, s = sh[k] := ⟨_, rfl⟩
      have hsl : s < ml.length := by rw [hs]; exact HSLT.out k hks
      have k1 : wr.cell? ⟨sb, k, none⟩ = some (.int .i64 (s : Nat)) := by rw [hs]; exact (cell_of hst.shuf).trans (rowI_get _ _ _ hks)
      obtain ⟨x, hx⟩ : ∃ x, x = ml[s] := ⟨_, rfl⟩
      have k2 : wr.cell? ⟨rb, s, none⟩ = some (.int .i64 (x : Nat)) := by rw [hx]; exact hst.may s hsl
      have hnext : row.take (k + 1) = row.take k ++ [x] := by
        rw [HGET.out k hks, ← hs, hx]; simp [hsl]
      have HNEXT := Lib.hid hnext
      have hsI : (s : Int) < (ml.length : Int) := by omega
      have hkI : (k : Int) < (ml.length : Int) := by omega
      have HV1 : Hid ((getB us (x : Int)).score = scU us x) := Lib.hid rfl
      have HV2 : Hid ((getB us (x : Int)).trial = trU us x) := Lib.hid rfl
      have HST := Lib.hid hst
      have hbk := hst.book
      clear hs hx hnext hst
      go_wp2_with fail
      refine (score_v b r L R us x _ (scU us x) hbk HV1).mono ?_
      rintro e9 w4 ⟨rfl, rfl⟩
      go_wp2_with fail
      refine (trial_v b r L R us x _ (trU us x) hbk HV2).mono ?_
      rintro e9 w4 ⟨rfl, rfl⟩
      obtain ⟨sx, hsx⟩ : ∃ sx, sx = scU us x := ⟨_, rfl⟩
      obtain ⟨tx, htx⟩ : ∃ tx, tx = trU us x := ⟨_, rfl⟩
      rw [← hsx, ← htx]
      have HE : Hid (entV (scU us) (trU us) x = [.int .i64 x, .int .i64 sx, .bool tx]) := Lib.hid (by rw [hsx, htx]; rfl)
      have HNU := Lib.hid (new_ent wr 71 x sx tx)
      clear hsx htx
      go_wp2_with (at_builtin; go_must (refine wpList_append_fits _ rfl _ _ 69 rfl gE 71 i0 3 Try.underlying69 hi0 hz1 gE k ml.length _ rfl (HST.out.own.alloc _) ⟨wr.heap.size, 0, none⟩ 1 1 [.int .i64 x, .int .i64 sx, .bool tx] rfl rfl HNU.out (by intro v hv; simp only [List.mem_cons, List.not_mem_nil, or_false] at hv; rcases hv with rfl | rfl | rfl <;> rfl) (by omega) ?_); go_must (intro w5 own5 hg5; have hcA : Chg [] wr (wr.alloc (.cells #[.int .i64 x, .int .i64 sx, .bool tx] 71)) := (Chg.refl _ _).alloc _; have hcB : Chg [gE] wr w5 := (hcA.mono (by simp)).grown hg5 (by intro q hq; injection hq with hq; subst hq; exact .inl (by simp)); have HST5 : Hid (Ord1 w w5 gE sb rb t b r L R seed u' ml.length (k + 1) l us ml sh row) := Lib.hid ⟨(by rw [HNEXT.out, entsV_append, show entsV (scU us) (trU us) [x] = entV (scU us) (trU us) x from List.append_nil _, HE.out]; exact own5), HST.out.book.chg hcB (by simpa using hbg) (by simpa using hrg), (by obtain ⟨cb, hcb⟩ := HST.out.blk; exact tape_ents (sc := scU us) (tr := trU us) (S := []) HST.out.tape hcB (.inr ⟨htg, cb, _, hcb⟩)), HST.out.may.chg hcB (by simpa using hrbg), hcB.keep HST.out.shuf (by simpa using hsbg), HST.out.chg.trans_new hcB (by simp; omega), own_blk own5⟩; clear own5 hg5 hcA hcB HST))
      go_roundw
      case rel => exact ⟨k + 1, by omega, by go_num, by go_num, HST5.out⟩
      case measure => simp [intOf] <;> omega
    · obtain rfl : k = ml.length := by omega
      have dk : decide (ml.length < ml.length) = false := by simp
      have hE : EntsAt (scU us) (trU us) wr gE row := ents_of_own (by have := hst.own; rw [List.take_of_length_le (by rw [HLEN.out.2.1]; exact Nat.le_refl _)] at this; exact this) hpos
      have HST := Lib.hid hst
      have hrowl : row.length = ml.length := HLEN.out.2.1
      have hsrt := sort_any (scU us) (trU us) HSC.out gE ml.length row wr hE (by omega) (by omega)
      rw [hrowl] at hsrt
      rw [← HORD.out] at hsrt
      have HSRT := Lib.hid hsrt
      have hcf : cmpF = .func (.func 33) #[] #[] := rfl
      clear hst hE hsrt hrowl
      go_wp2_with fail
      rw [← hcf]
      refine HSRT.out.mono ?_
      rintro e w4 ⟨rfl, hE4, hc4⟩
      have b4 := HST.out.book.chg hc4 (by simpa using hbg) (by simpa using hrg)
      have t4 : D.TapeAt w4 t seed l u' := by obtain ⟨cb, hcb⟩ := HST.out.blk; exact tape_ents (sc := scU us) (tr := trU us) (S := []) HST.out.tape hc4 (.inr ⟨htg, cb, _, hcb⟩)
      have hC4 : Chg [t] w w4 := HST.out.chg.trans_new hc4 (by simp; omega)
      clear HST hc4 HSRT hcf
      have hwb : w.heap.size ≤ w4.heap.size := hC4.size
      have hordl : ord.length = ml.length := HLEN.out.2.2
      have HORDL := Lib.hid hordl
      have HE4 := Lib.hid hE4
      rw [← hordl]
      clear hordl hE4
      go_wp2_with fail
      go_loopw [10, 53] (OrdR2 w4 ord) (fun _ i _ => ord.length - (intOf i).toNat)
      case atStart => exact ⟨0, Nat.zero_le _, rfl, ⟨rfl, .inl ⟨rfl, rfl⟩⟩, Chg.refl _ _⟩
      case round =>
        obtain ⟨k, hk, rfl, own, hC⟩ := hrel
        by_cases hko : k < ord.length
        · obtain ⟨x, hx⟩ : ∃ x, x = ord[k] := ⟨_, rfl⟩
          have hE := HE4.out.chg hC (by simp)
          obtain ⟨o0, o1, o2⟩ := hE.one k hko
          rw [← hx] at o0 o1 o2
          obtain ⟨sx, hsx⟩ : ∃ sx, sx = scU us x := ⟨_, rfl⟩
          obtain ⟨tx, htx⟩ : ∃ tx, tx = trU us x := ⟨_, rfl⟩
          rw [← hsx] at o1
          rw [← htx] at o2
          have hnext : ord.take (k + 1) = ord.take k ++ [x] := by rw [List.take_succ_eq_append_getElem hko, hx]
          obtain ⟨tk', htk'⟩ : ∃ tk', tk' = ord.take k := ⟨_, rfl⟩
          have htl' : tk'.length = k := by rw [htk']; simp; omega
          rw [← htk'] at own hnext
          obtain ⟨av, cv, hv⟩ := owns_len own
          rw [htl'] at hv
          subst hv
          have hko9 : k < 9 := by have := HORDL.out; omega
          have hkI : (k : Int) < (ord.length : Int) := by omega
          have HNEXT := Lib.hid hnext
          have HTL := Lib.hid htl'
          have OWN := Lib.hid own
          have hwr4 : w4.heap.size ≤ wr.heap.size := hC.size
          clear hx hsx htx hnext htk' htl' own hE
          go_upto_region 16 with (fail)
          obtain ⟨p, hp⟩ : ∃ p, p = wr.heap.size := ⟨_, rfl⟩
          rw [← hp]
          refine wp_abs ?_
          intro w0 hw0
          have e0 : w0.cell? ⟨p, 0, none⟩ = some (.int .i64 x) := by rw [hw0, hp]; exact cell_of (heap_new _ _)
          have hcA : Chg [] wr w0 := by rw [hw0]; exact (Chg.refl _ _).alloc _
          have OWN0 : Hid (OwnI w4.heap.size w0 (.slice av k cv) tk') := Lib.hid (owns_chg OWN.out hcA (by simp))
          have hsz0 : w4.heap.size ≤ w0.heap.size := Nat.le_trans hwr4 hcA.size
          have hC0 := hC.trans hcA
          clear hw0 hp hcA OWN hC o0 o1 o2 hwr4
          go_wp2_with (at_builtin; go_must (refine wpList_append_own _ rfl _ _ 32 rfl w4.heap.size 3 j0 (.int .i64 0) 1 8 Try.underlying32 hj0 hy0 hy1 hy2 rfl (by decide) _ tk'.length _ rfl (OWN0.out.alloc _) ⟨w0.heap.size, 0, none⟩ 1 1 [.int .i64 (x : Nat)] rfl rfl (cell_one_new _ _ _) (by simp [Value.oneCell']) (by rw [HTL.out]; unfold maxLen; omega) (by rw [HTL.out]; omega) (by simp; omega) ?_); go_must (intro v1 w5 own5 hg5 _; have hC5 := (hC0.alloc (.cells #[.int .i64 (x : Nat)] 3)).grown hg5 (owns_block OWN0.out)))
          go_roundw
          case rel =>
            refine ⟨k + 1, hko, by go_num, ?_, hC5⟩
            rw [HNEXT.out]
            exact OwnI.snoc own5
          case measure => simp [intOf] <;> omega
        · obtain rfl : k = ord.length := by omega
          rw [List.take_of_length_le (Nat.le_refl _)] at own
          obtain ⟨av, cv, hv⟩ := owns_len own
          subst hv
          have OWN := Lib.hid own
          have b5 := b4.chg hC (by simp) (by simp)
          have t5 := t4.chg hC (by simp) (by simp)
          have hC5 : Chg [t] w wr := hC4.trans (hC.mono (by simp))
          clear own b4 t4
          go_wp2
          go_ret
          exact ⟨av, cv, rfl, owns_base OWN.out hwb, b5, by rw [HML.out, ← HU.out]; exact t5, hC5⟩

end Go.Proofs.Ytdbannnbbngckaa
