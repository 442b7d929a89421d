/- The contract of the reference's Number. Condition: the scheme is valid, its parts and the rows are in memory, the text is short. -/
import Derived.Test.YteleehldcpjndaaRefJ
namespace Go.Proofs.Yteleehldcpjndaa
open Go Go.RowKit

/-- the number of a text, 0 if it is no serial -/
def Sch.nm (s : Sch) (x : Bytes) : Nat := if s.serr x = 0 then (s.bods.filter fun p => wlt p (s.word x)).length else 0

theorem Sch.nm_no {s : Sch} {x : Bytes} (h : s.serr x ≠ 0) : s.nm x = 0 := by unfold Sch.nm; rw [if_neg h]
theorem Sch.nm_ok {s : Sch} {x : Bytes} (h : s.serr x = 0) : s.nm x = (s.bods.filter fun p => wlt p (s.word x)).length := by unfold Sch.nm; rw [if_pos h]

section
variable {w : World} {s : Sch} {a : Option Addr} {cap : Nat} {m : RMem}

theorem idx_at {A B : ByteArray} (h : ofB B.data.toList A.data.toList = true) {i : Nat} (hi : i < B.size) : Lib.indexByte A.data.toList B[i] = ((idxs A.data.toList B.data.toList).getD i 0 : Nat) := by
  have hin : A.data.toList.contains B[i] = true := (List.all_eq_true.1 h) _ (by simp [ByteArray.getElem_eq_getElem_data])
  have h1 := Lib.contains_iff_indexByte A.data.toList B[i]
  rw [hin] at h1
  have h0 : 0 ≤ Lib.indexByte A.data.toList B[i] := by simpa using h1.symm
  unfold idxs
  rw [List.getD_eq_getElem?_getD, List.getElem?_map, List.getElem?_eq_getElem (by rw [size_toList]; exact hi)]
  simp only [Option.map_some, Option.getD_some, idx]
  rw [show B.data.toList[i]'(by rw [size_toList]; exact hi) = B[i] by simp [ByteArray.getElem_eq_getElem_data]]
  omega

theorem drop_cons {l : List Nat} {i : Nat} (h : i < l.length) : l.drop i = l.getD i 0 :: l.drop (i + 1) := by
  rw [List.getD_eq_getElem?_getD, List.getElem?_eq_getElem h]
  exact List.drop_eq_getElem_cons h

set_option maxRecDepth 100000 in
set_option maxHeartbeats 4000000 in
theorem number_ref (O : s.Ok) (h : s.In w a) (hm : m.In s w) (x : ByteArray) (hx : x.size ≤ 1000) :
    Calls Try.prog 26 #[s.val a cap, m.val s, .string x] w fun e w' =>
      e = .returned (.tuple #[.int .i64 (s.nm x.data.toList : Nat), .int .i64 (s.serr x.data.toList : Nat)]) ∧ Below w.heap.size w w' := by
  obtain ⟨m1, hm1⟩ : ∃ m1, m1 = s.L.toNat + 1 := ⟨_, rfl⟩
  have hL1 := O.l1
  have hL16 := O.l16
  have hA2 := O.a2
  have hA36 := O.a36
  have hS0 : 0 < s.S.length := (rbegs_head s.B).1
  have hc1 : RT s a cap m m1 w ((boxW s a cap w).alloc (rowsO s m m1)) := RT.start h hm
  have HX : Hid (x.size ≤ maxLen) := Lib.hid (by unfold maxLen; omega)
  have HAL : Hid (s.A.size ≤ maxLen) := Lib.hid (by unfold maxLen; omega)
  have HB8 : Hid (∀ b ∈ s.bs, b.size ≤ 1000) := Lib.hid (fun b hb => by have := O.b8 b hb; omega)
  rw [val_m1 hm1]
  have HI : Hid (∀ r, r ≤ s.L.toNat → r < m1) := Lib.hid (fun r hr => by omega)
  clear hm1 h hm
  obtain ⟨L, hLn⟩ : ∃ L, s.L.toNat = L := ⟨_, rfl⟩
  have hLa : s.L ≤ (L : Int) := by omega
  have hLb : (L : Int) ≤ s.L := by omega
  rw [hLn] at HI
  have HLN0 := Lib.hid hLn
  clear hLn
  have c0 := hc1.ctx.c0
  have c1 := hc1.ctx.c1
  have c2 := hc1.ctx.c2
  have c3 := hc1.ctx.c3
  unfold Sch.val
  go_enter Try.func26, Try.ntmps26
  unfold boxW rowsO at c0 c1 c2 c3
  go_wp2_with fail
  change Calls _ _ _ ((boxW s a cap w).alloc (rowsO s m m1)) _
  generalize (boxW s a cap w).alloc (rowsO s m m1) = w1 at *
  clear c0 c1 c2 c3
  refine (syntax_ref (cap := cap) O.toWf hc1.ctx.in_ x HX.out).mono ?_
  rintro e w2 ⟨rfl, hb2⟩
  have hc2 := hc1.next hb2
  clear hc1 hb2
  cases hsy : s.syn x.data.toList
  · have HE : Hid (s.serr x.data.toList = 4) := Lib.hid (serr_no hsy)
    clear hsy
    go_wp2_with fail
    go_ret2
    exact ⟨by rw [Sch.nm_no (by rw [HE.out]; decide), HE.out]; rfl, hc2.ctx.below⟩
  · have hsl := (syn_iff.1 hsy).1
    have hso := ofB_take (syn_iff.1 hsy).2 s.L.toNat
    have HSY := Lib.hid hsy
    have hLx : L ≤ x.size := by
      rw [size_toList, HLN0.out] at hsl
      unfold sz at hsl
      split at hsl <;> omega
    have hLx2 : s.L ≤ (x.size : Int) := by omega
    have hL0 : (0 : Int) ≤ s.L := by omega
    obtain ⟨bd, hbd⟩ : ∃ bd, bd = x.extract 0 s.L.toNat := ⟨_, rfl⟩
    have hbdd : bd.data.toList = x.data.toList.take s.L.toNat := by rw [hbd, Lib.extract_data]; simp
    have hbz : bd.size = L := by rw [← size_toList, hbdd, List.length_take, size_toList, HLN0.out]; omega
    have HBD := Lib.hid hbd
    have HBDD := Lib.hid hbdd
    have HOF : Hid (ofB bd.data.toList s.A.data.toList = true) := Lib.hid (by rw [hbdd]; exact hso)
    clear hsl hso hsy hbd hbdd
    have c0 := hc2.ctx.c0
    have c1 := hc2.ctx.c1
    have c2 := hc2.ctx.c2
    have c3 := hc2.ctx.c3
    go_wp2_with fail
    rw [← HBD.out]
    refine (allowed_ref (cap := cap) hc2.ctx.in_ HB8.out bd (by omega)).mono ?_
    rintro e w3 ⟨⟨r, rfl, hr⟩, hb3⟩
    have hc3 := hc2.next hb3
    rw [HBDD.out] at hr
    have HR := Lib.hid hr
    clear hc2 hb3 hr c0 c1 c2 c3
    cases r
    · have HE : Hid (s.serr x.data.toList = 21) := Lib.hid (serr_banned O HSY.out (fun ho => by have := HR.out.2 ho; cases this))
      go_wp2_with fail
      go_ret2
      exact ⟨by rw [Sch.nm_no (by rw [HE.out]; decide), HE.out]; rfl, hc3.ctx.below⟩
    · have HOK := Lib.hid (HR.out.1 rfl)
      clear HR
      have c0 := hc3.ctx.c0
      have c1 := hc3.ctx.c1
      have c2 := hc3.ctx.c2
      have c3 := hc3.ctx.c3
      go_wp2_with fail
      refine (serial_ref (s := s) (a := a) (cap := cap) hA2 hA36 bd (by omega) HOF.out).mono ?_
      rintro e w4 ⟨rfl, hb4⟩
      have hc4 := hc3.next hb4
      clear hc3 hb4 c0 c1 c2 c3
      obtain ⟨sx, hsx⟩ : ∃ sx : ByteArray, sx = ⟨(serialOf s.A.data.toList s.chk bd.data.toList).toArray⟩ := ⟨_, rfl⟩
      have hsd : sx.data.toList = serialOf s.A.data.toList s.chk (x.data.toList.take s.L.toNat) := by rw [hsx, HBDD.out]
      rw [← hsx]
      have HSD := Lib.hid hsd
      clear hsx hsd
      by_cases hq : sx = x
      · have hd : (sx.toList != x.toList) = false := by rw [bne_eq_false_iff_eq, hq]
        have hd2 : (sx.toList == x.toList) = true := by rw [beq_iff_eq, hq]
        have HE : Hid (s.serr x.data.toList = 0) := Lib.hid (serr_good O HSY.out HOK.out (by rw [← HSD.out, hq]))
        have hwv : ∀ v ∈ s.word x.data.toList, v < s.A.size := by
          intro v hv
          have := idxs_lt (ofB_take (syn_iff.1 HSY.out).2 s.L.toNat) v hv
          rwa [size_toList] at this
        have hwl : (s.word x.data.toList).length = L := by
          unfold Sch.word idxs
          rw [List.length_map, ← HBDD.out, size_toList, hbz]
        have hwo : okay s.B (txt s.A.data.toList (s.word x.data.toList)) := by
          unfold Sch.word
          rw [txt_idxs (ofB_take (syn_iff.1 HSY.out).2 s.L.toNat)]
          exact HOK.out
        have hfin := O.rl_bods (W := s.word x.data.toList) (by rw [hwl, HLN0.out]) hwv
        have hwalk := O.walk_rt hwv hwo
        have hfl : (s.bods.filter fun p => wlt p (s.word x.data.toList)).length ≤ s.bods.length := List.length_filter_le _ _
        have hcap := O.cap
        unfold capM at hcap
        obtain ⟨F, hF⟩ : ∃ F, F = (s.bods.filter fun p => wlt p (s.word x.data.toList)).length := ⟨_, rfl⟩
        have HF := Lib.hid hF
        rw [← hF] at hfin hfl
        clear hF
        have hF40 : F ≤ 1099511627776 := by omega
        have hword : idxs s.A.data.toList bd.data.toList = s.word x.data.toList := by unfold Sch.word; rw [HBDD.out]
        obtain ⟨X, hX⟩ : ∃ X, X = s.word x.data.toList := ⟨_, rfl⟩
        rw [← hX] at hfin hwalk hwl hwv hword
        rw [HLN0.out] at hfin
        have HST : Hid (0 + s.rl (L - 0) 0 (X.drop 0) = F ∧ (walk s.rt 0 (X.drop 0)).isSome = true) := Lib.hid ⟨by simpa using hfin, hwalk⟩
        have HV : Hid (∀ i (hi : i < bd.size), Lib.indexByte s.A.data.toList bd[i] = ((X.getD i 0 : Nat) : Int)) := Lib.hid (fun i hi => by rw [idx_at HOF.out hi, hword])
        have HWL := Lib.hid hwl
        have HWV : Hid (∀ i, i < L → X.getD i 0 < s.A.size) := Lib.hid (fun i hi => hwv _ (by rw [List.getD_eq_getElem?_getD, List.getElem?_eq_getElem (by omega)]; simp))
        have hc0' := hc4.ctx.c0
        clear hfin hwalk hwl hwv hword hX hfl hcap hwo hq hc0'
        go_wp2_with fail
        go_loopw [9, 10, 11] (fun vn vq vi wr => ∃ (i n q : Nat), i ≤ L ∧ q < s.S.length ∧ n ≤ F ∧ vi = .int .i64 i ∧ vn = .int .i64 n ∧ vq = .int .i64 q ∧ Hid (n + s.rl (L - i) q (X.drop i) = F ∧ (walk s.rt q (X.drop i)).isSome = true) ∧ RT s a cap m m1 w wr)
          (fun _ _ vi _ => L - (intOf vi).toNat)
        case atStart => exact ⟨0, 0, 0, Nat.zero_le _, hS0, Nat.zero_le _, rfl, rfl, rfl, HST, hc4⟩
        case round =>
          clear HST hc4
          obtain ⟨i, n, q, hi, hqs, hn, rfl, rfl, rfl, HR2, hcr⟩ := hrel
          have c0 := hcr.ctx.c0
          have c1 := hcr.ctx.c1
          by_cases hlt : i < L
          · obtain ⟨r, hr⟩ : ∃ r, L - i = r + 1 := ⟨L - i - 1, by omega⟩
            have hra : L ≤ i + (r + 1) := by omega
            have hrb : i + (r + 1) ≤ L := by omega
            obtain ⟨hrl, hwk⟩ := HR2.out
            have hib : i < bd.size := by omega
            have hdc := drop_cons (l := X) (i := i) (by rw [HWL.out]; exact hlt)
            have hiv := HV.out i hib
            have hvA := HWV.out i hlt
            rw [hr, hdc] at hrl
            rw [hdc] at hwk
            obtain ⟨v, hv⟩ : ∃ v, v = X.getD i 0 := ⟨_, rfl⟩
            rw [← hv] at hrl hwk hiv hvA
            obtain ⟨t, ht, hwk2⟩ := walk_split s.rt _ _ _ hwk
            rw [Sch.rl_some ht] at hrl
            have HRL := Lib.hid hrl
            have HWK := Lib.hid hwk2
            have HT := Lib.hid ht
            clear hr hrl hwk hdc hv ht hwk2 HR2
            go_wp2_with fail
            go_quiet ((go_at_call 25; exact Calls.quiet_of_same ((value_any _ _ HAL.out).mono fun e w' h => ⟨h.1, h.2.symm⟩)))
            have hcr2 := hcr.next (below_drewN wr nq)
            rw [hiv]
            clear hiv c0 c1 hcr
            generalize wr.drewN nq = w5 at *
            have r1 := hcr2.r1
            have hsm : ∀ c, c ≤ v → n + s.rs r q c ≤ F := by
              intro c hc
              have h1 := Sch.rs_mono (s := s) r q hc
              have h2 := HRL.out
              omega
            have HSM := Lib.hid hsm
            have HS0 : Hid (n = n + s.rs r q 0) := Lib.hid (by unfold Sch.rs; simp)
            clear hsm r1
            go_wp2_with fail
            go_loopw [9, 13] (fun vn vc wy => ∃ (c n' : Nat), c ≤ v ∧ n' ≤ F ∧ vc = .int .i64 c ∧ vn = .int .i64 n' ∧ Hid (n' = n + s.rs r q c) ∧ RT s a cap m m1 w wy)
              (fun _ vc _ => v - (intOf vc).toNat)
            case atStart => exact ⟨0, n, Nat.zero_le _, hn, rfl, rfl, HS0, hcr2⟩
            case round =>
              clear hcr2 HS0
              obtain ⟨c, n', hc, hn', rfl, rfl, HN', hcr⟩ := hrel
              have r1 := hcr.r1
              by_cases hltc : c < v
              · have e1 := hcr.n1 hqs
                have e2 := hcr.n2 (v := c) hqs (by omega)
                generalize (m.fn.getD q (0, 0)).1 = fi at e1 e2
                generalize (m.fn.getD q (0, 0)).2 = ci at e1
                have hcA : c < s.A.size := by omega
                rcases Sch.rt_cases (s := s) (i := q) (v := c) with ⟨ht, hx⟩ | ⟨j, hj, ht, hx⟩
                · rw [hx] at e2
                  have HN2 : Hid (n' = n + s.rs r q (c + 1)) := Lib.hid (by rw [Sch.rs_none ht]; exact HN'.out)
                  clear ht hx
                  go_wp2_with fail
                  go_roundw
                  case rel => exact ⟨c + 1, n', by omega, hn', by go_num, rfl, HN2, hcr⟩
                  case measure => simp [intOf]; omega
                · rw [hx] at e2
                  have hsum := HSM.out (c + 1) (by omega)
                  rw [Sch.rs_some ht] at hsum
                  have HN2 : Hid (n' + s.rw_ r j = n + s.rs r q (c + 1)) := Lib.hid (by rw [Sch.rs_some ht, HN'.out]; omega)
                  have hnw : n' + s.rw_ r j ≤ F := by rw [HN'.out]; omega
                  have e3 := hcr.w1 (n := r) (by rw [HLN0.out]; omega)
                  have e4 := hcr.w2 (n := r) (by rw [HLN0.out]; omega) hj
                  generalize (m.hn.getD r (0, 0)).1 = hh at e3 e4
                  generalize (m.hn.getD r (0, 0)).2 = hcn at e3
                  generalize s.rw_ r j = ww at *
                  have hrm := HI.out r (by omega)
                  have r2 := hcr.r2
                  have c1 := hcr.ctx.c1
                  have hsub : s.L - 1 - (i : Int) = (r : Int) := by omega
                  clear hsum ht hx
                  go_wp2_with fail
                  go_quiet (fail)
                  have hcr2 := hcr.next (below_drewN wr nq)
                  go_wp2_with fail
                  go_roundw
                  case rel => exact ⟨c + 1, n' + ww, by omega, hnw, by go_num, by go_num, HN2, hcr2⟩
                  case measure => simp [intOf]; omega
              · obtain rfl : v = c := by omega
                have e1 := hcr.n1 hqs
                have e2 := hcr.n2 (v := v) hqs hvA
                generalize (m.fn.getD q (0, 0)).1 = fi at e1 e2
                generalize (m.fn.getD q (0, 0)).2 = ci at e1
                rcases Sch.rt_cases (s := s) (i := q) (v := v) with ⟨ht, _⟩ | ⟨j, hj, ht, hx⟩
                · have := HT.out
                  rw [ht] at this
                  cases this
                · have htj : t = j := by
                    have := HT.out
                    rw [ht] at this
                    exact (Option.some.inj this).symm
                  rw [hx] at e2
                  have HE2 : Hid (n' + s.rl (L - (i + 1)) j (X.drop (i + 1)) = F ∧ (walk s.rt j (X.drop (i + 1))).isSome = true) := Lib.hid (by
                    rw [show L - (i + 1) = r by omega, ← htj]
                    exact ⟨by rw [HN'.out]; exact (by have := HRL.out; omega), HWK.out⟩)
                  clear ht hx htj
                  go_wp2_with fail
                  go_roundw
                  case rel => exact ⟨i + 1, n', j, by omega, hj, hn', by go_num, rfl, rfl, HE2, hcr⟩
                  case measure => simp [intOf]; omega
          · obtain rfl : i = L := by omega
            have HFN : Hid (n = F) := Lib.hid (by
              have := HR2.out.1
              rw [Nat.sub_self, Sch.rl_zero] at this
              omega)
            go_wp2_with fail
            go_ret2
            exact ⟨by rw [Sch.nm_ok HE.out, HE.out, ← HF.out, ← HFN.out]; rfl, hcr.ctx.below⟩
      · have hd : (sx.toList != x.toList) = true := by
          rw [bne_iff_ne]
          intro hc
          rw [Lib.toList_data, Lib.toList_data] at hc
          exact hq (ba_eq hc)
        have hd2 : (sx.toList == x.toList) = false := by
          rw [beq_eq_false_iff_ne]
          intro hc
          rw [Lib.toList_data, Lib.toList_data] at hc
          exact hq (ba_eq hc)
        have HE : Hid (s.serr x.data.toList = 22) := Lib.hid (serr_check O HSY.out HOK.out (fun hc => hq (ba_eq (HSD.out.trans hc))))
        clear hq
        go_wp2_with fail
        go_ret2
        exact ⟨by rw [Sch.nm_no (by rw [HE.out]; decide), HE.out]; rfl, hc4.ctx.below⟩
end
end Go.Proofs.Yteleehldcpjndaa
