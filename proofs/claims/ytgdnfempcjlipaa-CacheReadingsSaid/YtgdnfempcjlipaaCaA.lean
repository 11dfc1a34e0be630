/- The walks of play and same. -/
import Derived.Test.YtgdnfempcjlipaaCacZ
namespace Go.Proofs.Ytgdnfempcjlipaa
open Go.RowKit Go.Maps

/-- What is no cache's stays. -/
def CK (wr w' : World) : Prop := wr.heap.size ≤ w'.heap.size ∧ ∀ (b : Nat) (c : Array Value) (t : TypeId) (f : Nat × Nat), wr.heap[b]? = some (.cells c t f) → cacheTys.contains (some t) = false → w'.heap[b]? = some (.cells c t f)
theorem CChg.ck {wr w' : World} (h : CChg wr w') : CK wr w' := ⟨h.size, fun _ _ _ _ hb ht => h.keep hb ht⟩
theorem CK.refl (w : World) : CK w w := ⟨Nat.le_refl _, fun _ _ _ _ h _ => h⟩
theorem CK.trans {a b c : World} (h : CK a b) (k : CK b c) : CK a c := ⟨Nat.le_trans h.1 k.1, fun x y t f hb ht => k.2 x y t f (h.2 x y t f hb ht) ht⟩
theorem chg_ck {wr w' : World} (h : Chg [] wr w') : CK wr w' := h.cchg.ck
theorem CK.ownR {wr w' : World} (h : CK wr w') {α : Type} {t : TypeId} {sz : Nat} {f : α → List Value} {base : Nat} {v : Value} {l : List α} (ho : R.OwnR t sz f base wr v l) (ht : (cacheTys.contains (some t)) = false) : R.OwnR t sz f base w' v l := by
  refine ho.keep fun g hg => ?_
  obtain ⟨_, _, c, hc⟩ := ho.blk g hg
  rw [hc]
  exact h.2 g c t _ hc ht
theorem CK.ownSets {wr w' : World} (h : CK wr w') {base : Nat} {v : Value} {l : List SetP} (ho : OwnSets base wr v l) : OwnSets base w' v l := by
  obtain ⟨h0, ds, h1, h2, h3⟩ := ho
  exact ⟨h0, ds, h1, h.ownR h2 (by decide), fun x hx => ⟨(h3 x hx).1, h.ownR (h3 x hx).2 (by decide)⟩⟩
theorem CK.ownV {wr w' : World} (h : CK wr w') {base : Nat} {code : Int} {sv ov : Value} {v : Ver} (ho : OwnV base wr code sv ov v) : OwnV base w' code sv ov v := ⟨ho.code, ho.lt, h.ownSets ho.sets, h.ownSets ho.soa⟩

/-- What an act makes of a cache. -/
def doA (n : Nat) (c : Cst) (a : ActT) : Cst := if a.k = 0 then keepC n c a.q a.v a.life a.now else if a.k = 1 ∨ a.k = 2 then advC c a.now else findC c a.q a.now
def runA (n : Nat) (c : Cst) (acts : List ActT) : Cst := acts.foldl (doA n) c
theorem runA_snoc (n : Nat) (c : Cst) (acts : List ActT) (a : ActT) : runA n c (acts ++ [a]) = doA n (runA n c acts) a := by simp [runA, List.foldl_append]
theorem runA_take {n : Nat} {c : Cst} {acts : List ActT} {j : Nat} (h : j < acts.length) {A : ActT} (hA : A = acts[j]) : runA n c (acts.take (j + 1)) = doA n (runA n c (acts.take j)) A := by
  rw [List.take_succ_eq_append_getElem h, ← hA, runA_snoc]
theorem put_put (x : Chn) (c d : Cst) : (x.put c).put d = x.put d := rfl
theorem set_set {α : Type} (T : List α) (i : Nat) (x y : α) : (T.set i x).set i y = T.set i y := by simp

def PlayR (w w0 : World) (P : Nat) (T : List Chn) (i0 : Nat) (x : Chn) (acts : List ActT) (i : Value) (wr : World) : Prop :=
  ∃ j : Nat, j ≤ acts.length ∧ i = .int .i64 (j : Nat) ∧ Cabs w wr (P + j) (T.set i0 (x.put (runA x.n x.c (acts.take j)))) ∧ CK w0 wr
theorem c8_chg {w w' : World} {b k0 : Nat} {v1 v2 v3 v4 v5 v6 v7 v8 : Value} (h : w.cell? ⟨b, k0 + 1, none⟩ = some v1 ∧ w.cell? ⟨b, k0 + 1 + 1, none⟩ = some v2 ∧ w.cell? ⟨b, k0 + 1 + 2, none⟩ = some v3 ∧ w.cell? ⟨b, k0 + 4, none⟩ = some v4 ∧ w.cell? ⟨b, k0 + 4 + 1, none⟩ = some v5 ∧ w.cell? ⟨b, k0 + 4 + 2, none⟩ = some v6 ∧ w.cell? ⟨b, k0 + 7, none⟩ = some v7 ∧ w.cell? ⟨b, k0 + 8, none⟩ = some v8) (hc : Chg [] w w') :
    w'.cell? ⟨b, k0 + 1, none⟩ = some v1 ∧ w'.cell? ⟨b, k0 + 1 + 1, none⟩ = some v2 ∧ w'.cell? ⟨b, k0 + 1 + 2, none⟩ = some v3 ∧ w'.cell? ⟨b, k0 + 4, none⟩ = some v4 ∧ w'.cell? ⟨b, k0 + 4 + 1, none⟩ = some v5 ∧ w'.cell? ⟨b, k0 + 4 + 2, none⟩ = some v6 ∧ w'.cell? ⟨b, k0 + 7, none⟩ = some v7 ∧ w'.cell? ⟨b, k0 + 8, none⟩ = some v8 := by
  obtain ⟨h1, h2, h3, h4, h5, h6, h7, h8⟩ := h
  exact ⟨hc.cell h1 (by simp), hc.cell h2 (by simp), hc.cell h3 (by simp), hc.cell h4 (by simp), hc.cell h5 (by simp), hc.cell h6 (by simp), hc.cell h7 (by simp), hc.cell h8 (by simp)⟩
set_option maxRecDepth 100000 in
set_option maxHeartbeats 4000000 in
theorem play_c {w w0 : World} {P : Nat} {T : List Chn} (h : Cabs w w0 P T) {i0 : Nat} {x : Chn} (hi : T[i0]? = some x) (a : Option Addr) (cap : Nat) (acts : List ActT) (hA : IsActs w a acts) (hO : OkActs acts) (hP : P ≤ 800000) :
    Calls Try.prog 17 #[.pointer (some ⟨x.cb, 0, none⟩), .slice a acts.length cap] w0 fun e w' => e = .returned (.tuple #[]) ∧ Cabs w w' (P + acts.length) (T.set i0 (x.put (runA x.n x.c acts))) ∧ CK w0 w' := by
  have hil := ltT hi
  have hstart : PlayR w w0 P T i0 x acts (.int .i64 0) w0 := ⟨0, Nat.zero_le _, rfl, by
    have e : T.set i0 (x.put (runA x.n x.c (acts.take 0))) = T := by
      apply List.ext_getElem?
      intro k
      by_cases e : k = i0
      · subst e; rw [List.getElem?_set_self hil, hi]; rfl
      · rw [List.getElem?_set_ne (fun h => e h.symm)]
    rw [e]
    exact h, CK.refl _⟩
  have hset : ∀ c, (T.set i0 (x.put c))[i0]? = some (x.put c) := fun c => by rw [List.getElem?_set_self hil]
  have hmax : (acts.length : Int) ≤ 300 := by have := hO.1; omega
  have HSTART := Lib.hid hstart
  have HSET := Lib.hid hset
  have HA := Lib.hid hA.2
  have HO := Lib.hid hO
  obtain ⟨cb, n, k0, k1, c0⟩ := x
  simp only [Chn.put] at HSTART HSET ⊢
  clear hstart hset hA hO h hi hil
  go_enter Try.func17, Try.ntmps17
  go_wp2_with fail
  go_loopw [4] (fun i wr => PlayR w w0 P T i0 ⟨cb, n, k0, k1, c0⟩ acts i wr) (fun i _ => acts.length - (intOf i).toNat)
  case atStart => exact HSTART.out
  case round =>
    clear HSTART
    obtain ⟨j, hj, rfl, hT, hK⟩ := hrel
    by_cases hlt : j < acts.length
    · obtain ⟨b, o, rfl, _, q, hok⟩ := HA.out j hlt
      obtain ⟨A, hA⟩ : ∃ A, A = acts[j] := ⟨_, rfl⟩
      have hver : OkVer A.v := by rw [hA]; exact HO.out.2 _ (List.getElem_mem hlt)
      rw [← hA] at q hok
      have hrd := hok.v.rd hver
      obtain ⟨cc, hcc⟩ : ∃ cc, cc = runA n c0 (acts.take j) := ⟨_, rfl⟩
      have hnext : runA n c0 (acts.take (j + 1)) = doA n cc A := by rw [hcc]; exact runA_take hlt hA
      obtain ⟨ak, aq, av, al, an, asv, aov⟩ := A
      obtain ⟨nm, ty, cl⟩ := aq
      obtain ⟨hk, hq, _, hl, hn⟩ := hok
      obtain ⟨hq1, hq2, hq3⟩ := hq
      simp only [Chn.put] at hk hq1 hq2 hq3 hl hn hrd q hT
      rw [← hcc] at hT
      obtain ⟨_, sds, _, srd, _⟩ := id hrd.sets
      obtain ⟨sa, sc, se, _⟩ := srd
      subst se
      obtain ⟨_, ods, _, ord', _⟩ := id hrd.soa
      obtain ⟨oa, oc, oe, _⟩ := ord'
      subst oe
      generalize sds.length = sn at *
      generalize ods.length = on at *
      have hc := hT.isChg
      have d0 : wr.cell? ⟨b, o + j * 9, none⟩ = some (.int .u8 (ak : Nat)) := hc.cell (q 0 _ rfl) (by simp)
      have sw : w.cell? ⟨b, o + j * 9 + 1, none⟩ = some (.string nm) ∧ w.cell? ⟨b, o + j * 9 + 1 + 1, none⟩ = some (.int .u16 (ty : Nat)) ∧ w.cell? ⟨b, o + j * 9 + 1 + 2, none⟩ = some (.int .u16 (cl : Nat)) ∧ w.cell? ⟨b, o + j * 9 + 4, none⟩ = some (.int .u8 (av.code : Nat)) ∧ w.cell? ⟨b, o + j * 9 + 4 + 1, none⟩ = some (.slice sa sn sc) ∧ w.cell? ⟨b, o + j * 9 + 4 + 2, none⟩ = some (.slice oa on oc) ∧ w.cell? ⟨b, o + j * 9 + 7, none⟩ = some (.int .i64 al) ∧ w.cell? ⟨b, o + j * 9 + 8, none⟩ = some (.int .i64 an) := by
        refine ⟨?_, ?_, ?_, ?_, ?_, ?_, ?_, ?_⟩ <;> simp only [Nat.add_assoc, Nat.reduceAdd]
        · exact q 1 _ rfl
        · exact q 2 _ rfl
        · exact q 3 _ rfl
        · exact q 4 _ rfl
        · exact q 5 _ rfl
        · exact q 6 _ rfl
        · exact q 7 _ rfl
        · exact q 8 _ rfl
      have SW := Lib.hid sw
      have s0 := c8_chg sw hc
      have S0 := Lib.hid s0
      have HT := Lib.hid hT
      have HK := Lib.hid hK
      have HRD := Lib.hid hrd
      have HNX := Lib.hid hnext
      have hPj : P + j ≤ 900000 := by omega
      have hfinish : ∀ (w' : World) (cc' : Cst) (Q : Nat), cc' = doA n cc ⟨ak, ⟨nm, ty, cl⟩, av, al, an, .slice sa sn sc, .slice oa on oc⟩ → Q ≤ P + j + 1 → Cabs w w' Q ((T.set i0 ⟨cb, n, k0, k1, cc⟩).set i0 ⟨cb, n, k0, k1, cc'⟩) → CK wr w' → PlayR w w0 P T i0 ⟨cb, n, k0, k1, c0⟩ acts (.int .i64 ((j + 1 : Nat) : Int)) w' := by
        intro w' cc' Q e1 e2 e3 e4
        refine ⟨j + 1, hlt, rfl, ?_, HK.out.trans e4⟩
        rw [set_set] at e3
        simp only [Chn.put]
        rw [HNX.out, ← e1]
        exact e3.mono (by omega)
      have HF := Lib.hid hfinish
      clear q hA hver hrd hcc hnext hT hK hc s0 sw hfinish
      by_cases hk0 : ak = 0
      · subst hk0
        obtain ⟨s1, s2, s3, s4, s5, s6, s7, s8⟩ := S0.out
        obtain ⟨rr, hrr⟩ : ∃ rr : Int, rr = if okK ⟨nm, ty, cl⟩ al = true then 0 else 1 := ⟨_, rfl⟩
        have HRR := Lib.hid hrr
        clear hrr
        go_wp2_with fail
        clear s1 s2 s3 s4 s5 s6 s7 s8 d0
        go_region_held3 (fun W => W.cell? ⟨b, o + j * 9 + 1, none⟩ = some (.string nm) ∧ W.cell? ⟨b, o + j * 9 + 1 + 1, none⟩ = some (.int .u16 (ty : Nat)) ∧ W.cell? ⟨b, o + j * 9 + 1 + 2, none⟩ = some (.int .u16 (cl : Nat)) ∧ W.cell? ⟨b, o + j * 9 + 4, none⟩ = some (.int .u8 (av.code : Nat)) ∧ W.cell? ⟨b, o + j * 9 + 4 + 1, none⟩ = some (.slice sa sn sc) ∧ W.cell? ⟨b, o + j * 9 + 4 + 2, none⟩ = some (.slice oa on oc) ∧ W.cell? ⟨b, o + j * 9 + 7, none⟩ = some (.int .i64 al) ∧ W.cell? ⟨b, o + j * 9 + 8, none⟩ = some (.int .i64 an)) (first | (with_reducible exact S9.out) | exact S0.out) (first | (go_at_call 11; refine (keep_c (HT.out.same (Chg.refl [] wr).drew) (HSET.out cc) ⟨nm, ty, cl⟩ (av.code : Nat) sa oa sn sc on oc av al an hPj hq1 hq2 hq3 hl (.inl HRD.out) rr HRR).mono ?_; rintro e9 w9 ⟨rfl, hT9, hcc9⟩; have S9 := Lib.hid (c8_chg SW.out hT9.isChg)))
        have hnew := HF.out w9 _ _ (by rfl) (Nat.le_refl _) hT9 ((chg_ck (Chg.refl [] wr).drew).trans hcc9.ck)
        have HNEW := Lib.hid hnew
        clear hnew hT9 hcc9 S9 S0 SW HT HF
        go_wp2
        go_roundw
        case rel => exact HNEW.out
        case measure => simp [intOf] <;> omega
      · have u0 : ((ak : Int) == 0) = false := by rw [beq_eq_false_iff_ne]; omega
        by_cases hk1 : ak = 1 ∨ ak = 2
        · have hdo : advC cc an = doA n cc ⟨ak, ⟨nm, ty, cl⟩, av, al, an, .slice sa sn sc, .slice oa on oc⟩ := by unfold doA; rw [if_neg hk0, if_pos hk1]
          obtain ⟨rr, hrr⟩ : ∃ rr : Nat, rr = cc.M.length - (advC cc an).M.length := ⟨_, rfl⟩
          have HRR := Lib.hid hrr
          have s8 := S0.out.2.2.2.2.2.2.2
          have HDO := Lib.hid hdo
          clear hrr hdo
          rcases hk1 with rfl | rfl
          all_goals
            go_wp2_with fail
            refine (expire_c HT.out (HSET.out cc) an rr hPj HRR).mono ?_
            rintro e9 w9 ⟨rfl, hT9, hcc9⟩
            have hnew := HF.out w9 _ _ HDO.out (Nat.le_succ _) hT9 hcc9.ck
            have HNEW := Lib.hid hnew
            clear hnew hT9 hcc9 S0 SW HT HF s8 d0
            go_wp2
            go_roundw
            case rel => exact HNEW.out
            case measure => simp [intOf] <;> omega
        · have hdo : findC cc ⟨nm, ty, cl⟩ an = doA n cc ⟨ak, ⟨nm, ty, cl⟩, av, al, an, .slice sa sn sc, .slice oa on oc⟩ := by unfold doA; rw [if_neg hk0, if_neg hk1]
          have u1 : ((ak : Int) == 1) = false := by rw [beq_eq_false_iff_ne]; omega
          have u2 : ((ak : Int) == 2) = false := by rw [beq_eq_false_iff_ne]; omega
          obtain ⟨s1, s2, s3, s4, s5, s6, s7, s8⟩ := S0.out
          obtain ⟨o', ho'⟩ : ∃ o', o' = gotC cc ⟨nm, ty, cl⟩ an := ⟨_, rfl⟩
          obtain ⟨code, hcode⟩ : ∃ code, code = (gotV o').code := ⟨_, rfl⟩
          obtain ⟨left, hleft⟩ : ∃ left, left = leftV o' (advC cc an).now := ⟨_, rfl⟩
          obtain ⟨bb, hbb⟩ : ∃ bb, bb = o'.isSome := ⟨_, rfl⟩
          have HO' := Lib.hid ho'
          have HCD := Lib.hid hcode
          have HLF := Lib.hid hleft
          have HBB := Lib.hid hbb
          have HDO := Lib.hid hdo
          clear ho' hcode hleft hbb hdo
          go_wp2_with fail
          clear s1 s2 s3 s4 s5 s6 s7 s8 d0 u0 u1 u2
          go_region_held3 (fun W => W.cell? ⟨b, o + j * 9 + 1, none⟩ = some (.string nm) ∧ W.cell? ⟨b, o + j * 9 + 1 + 1, none⟩ = some (.int .u16 (ty : Nat)) ∧ W.cell? ⟨b, o + j * 9 + 1 + 2, none⟩ = some (.int .u16 (cl : Nat)) ∧ W.cell? ⟨b, o + j * 9 + 4, none⟩ = some (.int .u8 (av.code : Nat)) ∧ W.cell? ⟨b, o + j * 9 + 4 + 1, none⟩ = some (.slice sa sn sc) ∧ W.cell? ⟨b, o + j * 9 + 4 + 2, none⟩ = some (.slice oa on oc) ∧ W.cell? ⟨b, o + j * 9 + 7, none⟩ = some (.int .i64 al) ∧ W.cell? ⟨b, o + j * 9 + 8, none⟩ = some (.int .i64 an)) (first | (with_reducible exact S9.out) | exact S0.out) (first | (go_at_call 15; refine (find_c (HT.out.same (Chg.refl [] wr).drew) (HSET.out cc) ⟨nm, ty, cl⟩ an o' code left bb hPj hq1 hq2 hq3 HO' HCD HLF HBB).mono ?_; rintro e9 w9 ⟨za, zn, zc, ya, yn, yc, rfl, _, hT9, hcc9⟩; have S9 := Lib.hid (c8_chg SW.out hT9.isChg)))
          have hnew := HF.out w9 _ _ HDO.out (Nat.le_succ _) hT9 ((chg_ck (Chg.refl [] wr).drew).trans hcc9.ck)
          have HNEW := Lib.hid hnew
          clear hnew hT9 hcc9 S9 S0 SW HT HF
          go_wp2
          go_roundw
          case rel => exact HNEW.out
          case measure => simp [intOf] <;> omega
    · obtain ⟨m, hm⟩ : ∃ m, m = acts.length := ⟨_, rfl⟩
      have hjm : j = acts.length := by omega
      have ht : acts.take j = acts := by rw [hjm]; exact List.take_of_length_le (Nat.le_refl _)
      rw [ht, hjm] at hT
      have t0 : decide (j < acts.length) = false := by rw [decide_eq_false_iff_not]; exact hlt
      have HT := Lib.hid hT
      have HK := Lib.hid hK
      clear hT hK ht hm hjm
      go_wp2
      go_end0
      exact ⟨rfl, HT.out, HK.out⟩

end Go.Proofs.Ytgdnfempcjlipaa
