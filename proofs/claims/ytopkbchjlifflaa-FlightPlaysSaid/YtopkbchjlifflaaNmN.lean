/- The document's names: Fold, Same. -/
import Derived.Test.YtopkbchjlifflaaNmM
namespace Go.Proofs.Ytopkbchjlifflaa
open Go.RowKit

theorem mayF_in {l : List UInt8} {f i : Nat} (h : mayF l f i = true) : i < l.length := by
  rcases Nat.lt_or_ge i l.length with hh | hh
  · exact hh
  · rw [mayF_out l f i hh] at h; cases h
theorem extract_list (s : ByteArray) (i j : Nat) : (s.extract i j).data.toList = (s.data.toList.drop i).take (j - i) := by
  rw [ByteArray.data_extract, Array.toList_extract, List.extract_eq_take_drop]
theorem lab_cat (s : ByteArray) : ∀ f i, mayF s.data.toList f i = true → catP ((labA s f i).map lowS) ++ [0] = lowL (s.data.toList.drop i) ∧ ∀ x ∈ labA s f i, x.size ≤ 63
  | 0, i, h => by simp [mayF] at h
  | f + 1, i, h => by
    have hi := mayF_in h
    have his : i < s.size := by rw [← size_list]; exact hi
    rw [mayF, dif_pos hi] at h
    rw [labA, dif_pos his]
    have hc : s.data.toList[i] = s[i] := rfl
    rw [hc] at h
    have hdr : s.data.toList.drop i = s[i] :: s.data.toList.drop (i + 1) := by rw [List.drop_eq_getElem_cons hi, hc]
    by_cases h0 : s[i].toNat = 0
    · rw [if_pos h0] at h
      rw [if_pos h0]
      have hend : i + 1 = s.data.toList.length := by simpa using h
      have e0 : s[i] = 0 := by apply UInt8.toNat_inj.1; rw [h0]; rfl
      refine ⟨?_, by simp⟩
      rw [hdr, List.drop_of_length_le (by omega), e0]
      rfl
    · rw [if_neg h0] at h
      rw [if_neg h0]
      by_cases h1 : 63 < s[i].toNat
      · rw [if_pos h1] at h; cases h
      · rw [if_neg h1] at h
        obtain ⟨ih1, ih2⟩ := lab_cat s f _ h
        have hin := mayF_in h
        have hxl : (s.extract (i + 1) (i + 1 + s[i].toNat)).data.toList = (s.data.toList.drop (i + 1)).take s[i].toNat := by
          rw [extract_list]; congr 1; omega
        have hxs : (s.extract (i + 1) (i + 1 + s[i].toNat)).size = s[i].toNat := by
          rw [← size_list, hxl, List.length_take, List.length_drop]; omega
        refine ⟨?_, fun x hx => ?_⟩
        · rw [List.map_cons]
          have e1 : catP (lowS (s.extract (i + 1) (i + 1 + s[i].toNat)) :: (labA s f (i + 1 + s[i].toNat)).map lowS) = (UInt8.ofNat (lowS (s.extract (i + 1) (i + 1 + s[i].toNat))).size :: (lowS (s.extract (i + 1) (i + 1 + s[i].toNat))).data.toList) ++ catP ((labA s f (i + 1 + s[i].toNat)).map lowS) := by simp [catP]
          rw [e1, List.append_assoc, ih1, lowS_size, lowS_list, hxs, hxl, hdr, UInt8.ofNat_toNat]
          have e2 : lowL (s[i] :: s.data.toList.drop (i + 1)) = s[i] :: lowL (s.data.toList.drop (i + 1)) := by
            unfold lowL
            rw [List.map_cons, lowC_small (by omega)]
          have e3 : lowL (s.data.toList.drop (i + 1)) = lowL ((s.data.toList.drop (i + 1)).take s[i].toNat) ++ lowL (s.data.toList.drop (i + 1 + s[i].toNat)) := by
            unfold lowL
            rw [← List.map_append]
            congr 1
            have e4 : s.data.toList.drop (i + 1 + s[i].toNat) = (s.data.toList.drop (i + 1)).drop s[i].toNat := by rw [List.drop_drop]
            rw [e4, List.take_append_drop]
          rw [e2, e3]
          rfl
        · rcases List.mem_cons.1 hx with rfl | hx
          · rw [hxs]; omega
          · exact ih2 x hx
theorem labA_len (s : ByteArray) : ∀ f i, (labA s f i).length ≤ s.size - i
  | 0, i => by simp [labA]
  | f + 1, i => by
    rw [labA]
    split
    · split
      · simp
      · have := labA_len s f (i + 1 + s[i].toNat)
        simp only [List.length_cons]
        omega
    · simp
def FolR (L : List ByteArray) (w : World) (v i : Value) (wr : World) : Prop := ∃ j : Nat, j ≤ L.length ∧ i = .int .i64 (j : Nat) ∧ R.OwnR 9 1 tV w.heap.size wr v ((L.take j).map lowS) ∧ Chg [] w wr
set_option maxRecDepth 100000 in
set_option maxHeartbeats 2000000 in
theorem rfold_any (s t : ByteArray) (w : World) (hs : s.size ≤ 100000) (ht : Hid (t = foldS s)) :
    Calls Try.prog 45 #[.string s] w fun e w' => e = .returned (.string t) ∧ Chg [] w w' := by
  obtain ⟨b, hb⟩ : ∃ b, b = mayB s.data.toList := ⟨_, rfl⟩
  go_enter Try.func45, Try.ntmps45
  go_wp2_with fail
  refine (rlabels_any s b w hs (Lib.hid hb)).mono ?_
  rintro e w1 ⟨hc1, h⟩
  rcases h with ⟨rfl, rfl⟩ | ⟨rfl, v, rfl, ho⟩
  · have e : t = ⟨#[]⟩ := by rw [ht.out]; unfold foldS foldL; rw [← hb]; rfl
    subst e
    clear ht hb
    go_wp2
    go_ret
    exact ⟨rfl, hc1⟩
  · have hml := mayB_len hb.symm
    rw [size_list] at hml
    have hmf : mayF s.data.toList (s.size + 1) 0 = true := by
      have := hb
      unfold mayB at this
      rw [size_list] at this
      simp at this
      exact this.2
    obtain ⟨hcat, hsz⟩ := lab_cat s _ _ hmf
    have ht2 : t.data.toList = catP ((labA s (s.size + 1) 0).map lowS) ++ [0] := by
      rw [hcat, ht.out]; unfold foldS foldL; rw [← hb]; simp
    obtain ⟨L, hL⟩ : ∃ L, L = labA s (s.size + 1) 0 := ⟨_, rfl⟩
    have hLl : L.length ≤ 1000 := by rw [hL]; have := labA_len s (s.size + 1) 0; omega
    rw [← hL] at ho hsz ht2
    have HSZ := Lib.hid hsz
    have HT := Lib.hid ht2
    have HO := Lib.hid ho
    obtain ⟨la, lc, rfl⟩ := ho.len
    obtain ⟨i0, hi0, hz0, hz1, hz2⟩ := info_parts Try.elemStrN
    clear ho hsz ht2 hcat hmf ht hb hL hml
    go_wp2_with fail
    go_loopw [5, 6] (FolR L w1) (fun _ i _ => L.length - (intOf i).toNat)
    case atStart => exact ⟨0, Nat.zero_le _, rfl, R.OwnR.nil _ _ _ _ _, Chg.refl _ _⟩
    case round =>
      obtain ⟨j, hj, rfl, hown, hC⟩ := hrel
      have hlj : ((L.take j).map lowS).length = j := by simp; omega
      obtain ⟨va, vc, rfl⟩ := hown.len
      rw [hlj]
      by_cases hlt : j < L.length
      · obtain ⟨g, c, hv, _, _, hcl⟩ := HO.out.cells tV_len (by omega)
        have hv1 := (Value.slice.inj hv).1
        clear hv
        subst hv1
        obtain ⟨x, hxx⟩ : ∃ x, x = L[j] := ⟨_, rfl⟩
        have d0 := hC.cell (hcl j hlt 0 (.string x) (by rw [← hxx]; rfl)) (by simp)
        rw [Nat.mul_one, Nat.add_zero] at d0
        have hxs : x.size ≤ 63 := by rw [hxx]; exact HSZ.out _ (List.getElem_mem hlt)
        have htk : (L.take (j + 1)).map lowS = (L.take j).map lowS ++ [lowS x] := by rw [List.take_succ_eq_append_getElem hlt, ← hxx, List.map_append]; rfl
        have HTK := Lib.hid htk
        have HOWN := Lib.hid hown
        have HLJ := Lib.hid hlj
        have HC := Lib.hid hC
        clear hcl hxx htk hown hlj hC
        go_wp2_with fail
        refine (rlow_any x wr (by omega)).mono ?_
        rintro e w2 ⟨rfl, hc2⟩
        obtain ⟨y, hy⟩ : ∃ y, y = lowS x := ⟨_, rfl⟩
        rw [← hy]
        have hO2 := HOWN.out.same (hc2.trans ((Chg.refl [] w2).alloc (.cells #[.string y] 9)))
        have hown2 : (w2.alloc (.cells #[.string y] 9)).ownsRow w1.heap.size 9 1 (.slice va j vc) j (((L.take j).map lowS).flatMap tV) := by
          unfold R.OwnR at hO2
          rw [HLJ.out] at hO2
          exact hO2
        have hcw := HC.out.trans (hc2.trans ((Chg.refl [] w2).alloc (.cells #[.string y] 9)))
        have HOWN2 := Lib.hid hown2
        have HLO := Lib.hid (fun g hg => (HOWN.out.blk g hg).1)
        have HCW := Lib.hid hcw
        have HSZW := Lib.hid hcw.size
        have HY := Lib.hid hy
        rw [HLJ.out] at HLO
        clear hO2 hown2 hc2 hcw hy d0
        go_wp2_with (first
          | (at_builtin; go_must (refine wpList_append_lies _ rfl _ _ 100 rfl w1.heap.size 9 i0 (.string ⟨#[]⟩) 1 16 Try.underlying100 hi0 hz0 hz1 hz2 rfl (by omega) _ _ _ rfl HOWN2.out ⟨_, 0, none⟩ 1 1 [.string y] rfl rfl ?_ ?_ (by omega) (by unfold maxLen; omega) (by omega) HSZW.out _ rfl ?_))
          | fail)
        · exact fun j u hu => World.news_of_block (heap_new _ _) j u (by simpa using hu)
        · intro u hu
          simp at hu
          subst hu
          rfl
        · intro g7 c7 w7 ho7 hg7 _ _
          have ho : R.OwnR 9 1 tV w1.heap.size w7 (.slice (some ⟨g7, 0, none⟩) (j + 1) c7) ((L.take (j + 1)).map lowS) := by
            rw [HTK.out, ← HY.out]
            refine R.OwnR.snoc ?_
            rw [HLJ.out]
            try rw [← List.map_take] at ho7
            exact ho7
          have hc : Chg [] w1 w7 := R.chg_grown HCW.out hg7 HLO.out
          have HO7 := Lib.hid ho
          have HC7 := Lib.hid hc
          clear ho hc ho7 hg7
          go_wp2
          go_roundw
          case rel => exact ⟨j + 1, by omega, by go_num, HO7.out, HC7.out⟩
          case measure => simp [intOf] <;> omega
      · obtain rfl : j = L.length := by omega
        rw [List.take_of_length_le (Nat.le_refl _)] at hown
        have hl2 : (L.map lowS).length = L.length := by simp
        rw [hl2] at hown
        have HOWN := Lib.hid hown
        clear hown hlj hl2
        go_wp2_with fail
        refine (rbytes_any w1.heap.size _ (L.map lowS) t wr ?_ (by simp; omega) ?_ HT).mono ?_
        · exact HOWN.out
        · intro x hx
          obtain ⟨y, hy, rfl⟩ := List.mem_map.1 hx
          rw [lowS_size]
          have := HSZ.out y hy
          omega
        rintro e w3 ⟨rfl, hc3⟩
        go_wp2
        go_ret
        exact ⟨rfl, (hc1.trans hC).trans hc3⟩
theorem rsame_any (s t : ByteArray) (b : Bool) (w : World) (hs : s.size ≤ 100000) (ht : t.size ≤ 100000) (hb : Hid (b = (mayB s.data.toList && mayB t.data.toList && decide (foldS s = foldS t)))) :
    Calls Try.prog 56 #[.string s, .string t] w fun e w' => e = .returned (.bool b) ∧ Chg [] w w' := by
  obtain ⟨b1, h1⟩ : ∃ b1, b1 = mayB s.data.toList := ⟨_, rfl⟩
  obtain ⟨b2, h2⟩ : ∃ b2, b2 = mayB t.data.toList := ⟨_, rfl⟩
  have h3 := hb.out
  rw [← h1, ← h2] at h3
  have H1 := Lib.hid h1
  have H2 := Lib.hid h2
  clear hb h1 h2
  go_enter Try.func56, Try.ntmps56
  go_wp2_with fail
  refine (rmay_any s b1 w hs H1).mono ?_
  rintro e w1 ⟨rfl, hc1⟩
  cases b1 with
  | false =>
    have : b = false := by rw [h3]; rfl
    subst this
    clear h3
    go_wp2
    go_ret
    exact ⟨rfl, hc1⟩
  | true =>
    go_wp2_with fail
    refine (rmay_any t b2 w1 ht H2).mono ?_
    rintro e w2 ⟨rfl, hc2⟩
    cases b2 with
    | false =>
      have : b = false := by rw [h3]; rfl
      subst this
      clear h3
      go_wp2
      go_ret
      exact ⟨rfl, hc1.trans hc2⟩
    | true =>
      have hbe : b = decide (foldS s = foldS t) := by rw [h3]; rfl
      obtain ⟨x, hx⟩ : ∃ x, x = foldS s := ⟨_, rfl⟩
      obtain ⟨y, hy⟩ : ∃ y, y = foldS t := ⟨_, rfl⟩
      rw [← hx, ← hy] at hbe
      have HX := Lib.hid hx
      have HY := Lib.hid hy
      clear h3 hx hy
      go_wp2_with fail
      refine (rfold_any s x w2 hs HX).mono ?_
      rintro e w3 ⟨rfl, hc3⟩
      go_wp2_with fail
      refine (rfold_any t y w3 ht HY).mono ?_
      rintro e w4 ⟨rfl, hc4⟩
      have hc := ((hc1.trans hc2).trans hc3).trans hc4
      have hd : (x.toList == y.toList) = b := by
        rw [ByteArray.toList_eq, ByteArray.toList_eq, hbe]
        by_cases e : x = y
        · subst e; simp
        · have h1 : (x.data.toList == y.data.toList) = false := beq_eq_false_iff_ne.2 fun h => e (ba_ext h)
          rw [h1, decide_eq_false e]
      clear hbe hc1 hc2 hc3 hc4
      go_wp2
      go_ret
      exact ⟨rfl, hc⟩

end Go.Proofs.Ytopkbchjlifflaa
