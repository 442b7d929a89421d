/- The contracts of the reference's of and Formed. Condition: the scheme's parts are in memory. -/
import Derived.Test.YteleehldcpjndaaRefA
namespace Go.Proofs.Yteleehldcpjndaa
open Go Go.RowKit

theorem index_self_le {A : List UInt8} {i : Nat} (hi : i < A.length) : Lib.indexByte A (A.getD i 0) ≤ i := by
  have hge := Lib.indexByte_ge A (A.getD i 0)
  by_cases h0 : 0 ≤ Lib.indexByte A (A.getD i 0)
  · have h3 := Lib.indexByte_some (l := A) (c := A.getD i 0) (o := (Lib.indexByte A (A.getD i 0)).toNat) (by omega)
    by_cases h4 : i < (Lib.indexByte A (A.getD i 0)).toNat
    · have := h3.2 i h4
      rw [List.getD_eq_getElem?_getD, List.getElem?_eq_getElem hi] at this
      exact absurd rfl this
    · omega
  · omega

section
variable {w : World}

set_option maxHeartbeats 400000 in
theorem of_ref (al s : ByteArray) (w : World) (hs : s.size ≤ maxLen) (ha : al.size ≤ maxLen) :
    Calls Try.prog 54 #[.string al, .string s] w fun e w' => e = .returned (.bool (ofB s.data.toList al.data.toList)) ∧ w = w' := by
  unfold maxLen at hs
  have HA := Lib.hid ha
  clear ha
  go_enter Try.func54, Try.ntmps54
  go_wp2_with fail
  go_loop [5] (fun i => ∃ k : Nat, k ≤ s.size ∧ i = .int .i64 k ∧ Hid (ofB (s.data.toList.take k) al.data.toList = true)) (fun i => s.size - (intOf i).toNat)
  case atStart => exact ⟨0, Nat.zero_le _, rfl, Lib.hid rfl⟩
  case round =>
    obtain ⟨k, hk, rfl, HR⟩ := hrel
    by_cases hlt : k < s.size
    · go_wp2_with fail
      refine (value_any al s[k] HA.out).mono ?_
      rintro e w' ⟨rfl, rfl⟩
      by_cases h0 : Lib.indexByte al.data.toList s[k] < 0
      · have HF : Hid (ofB s.data.toList al.data.toList = false) := Lib.hid (by
          have h1 := (of_mem _ _).1 h0
          have h2 : s[k] ∈ s.data.toList := by simp [ByteArray.getElem_eq_getElem_data]
          rw [← Bool.not_eq_true]
          intro h3
          have := (List.all_eq_true.1 h3) _ h2
          rw [h1] at this; cases this)
        go_wp2
        go_ret
        exact ⟨ret_bool HF.out.symm, rfl⟩
      · have HN : Hid (ofB (s.data.toList.take (k + 1)) al.data.toList = true) := Lib.hid (by
          rw [take_snoc s k hlt, ofB_snoc, HR.out, Bool.true_and]
          rcases hc : al.data.toList.contains s[k] with _ | _
          · have := (of_mem _ _).2 hc; omega
          · rfl)
        go_wp2
        go_round
        case rel => exact ⟨k + 1, by omega, by go_num, HN⟩
        case measure => simp [intOf]; omega
    · have : k = s.size := by omega
      subst this
      have HF : Hid (ofB s.data.toList al.data.toList = true) := Lib.hid (by
        have := HR.out
        rwa [List.take_of_length_le (by simp)] at this)
      go_wp2
      go_ret
      exact ⟨ret_bool HF.out.symm, rfl⟩
end

section
variable {w : World} {s : Sch} {a : Option Addr} {cap : Nat}

set_option maxRecDepth 100000 in
set_option maxHeartbeats 4000000 in
theorem formed_ref (h : s.In w a) :
    Calls Try.prog 29 #[s.val a cap] w fun e w' => e = .returned (.bool s.wf) ∧ Below w.heap.size w w' := by
  have hc1 := Ctx.start' (cap := cap) h
  have hlen := h.len
  have hal := h.alpha
  have hnum := h.num
  unfold maxLen at hlen hal
  clear h
  have c0 := hc1.c0
  have c1 := hc1.c1
  have c2 := hc1.c2
  have c3 := hc1.c3
  cases hno : okHead s.A.data.toList s.L s.bs.length s.chk
  · have HF : Hid (s.wf = false) := Lib.hid (by unfold Sch.wf wf; rw [hno]; rfl)
    have hcase : s.A.size < 2 ∨ (2 ≤ s.A.size ∧ 36 < s.A.size) ∨ (2 ≤ s.A.size ∧ s.A.size ≤ 36 ∧ s.L < 1) ∨ (2 ≤ s.A.size ∧ s.A.size ≤ 36 ∧ 1 ≤ s.L ∧ 16 < s.L) ∨ (2 ≤ s.A.size ∧ s.A.size ≤ 36 ∧ 1 ≤ s.L ∧ s.L ≤ 16 ∧ 16 < s.bs.length) ∨ (2 ≤ s.A.size ∧ s.A.size ≤ 36 ∧ 1 ≤ s.L ∧ s.L ≤ 16 ∧ s.bs.length ≤ 16 ∧ s.chk = true ∧ s.A.size % 2 = 1) := by
      have hl : s.A.data.toList.length = s.A.size := by simp
      unfold okHead at hno
      rw [hl] at hno
      cases hchk : s.chk
      · rw [hchk] at hno
        have e : (!(false && s.A.size % 2 == 1)) = true := rfl
        rw [e, Bool.and_true] at hno
        simp only [Bool.and_eq_false_iff, decide_eq_false_iff_not] at hno
        omega
      · rw [hchk] at hno
        simp only [Bool.and_eq_false_iff, decide_eq_false_iff_not, Bool.not_eq_false', Bool.true_and, beq_iff_eq] at hno
        simp only [true_and]
        omega
    clear hno
    unfold Sch.val
    rcases hcase with h | ⟨h, h1⟩ | ⟨h, h1, h2⟩ | ⟨h, h1, h2, h3⟩ | ⟨h, h1, h2, h3, h4⟩ | ⟨h, h1, h2, h3, h4, h5, h6⟩
    case inr.inr.inr.inr.inr =>
      have h7 : ((s.A.size : Int) % 2 == 1) = true := by rw [beq_iff_eq]; omega
      rw [h5] at c3
      clear h6
      go_enter Try.func29, Try.ntmps29
      rw [h5] at *
      go_wp2
      go_ret
      exact ⟨ret_bool HF.out.symm, (Below.refl _ _).alloc (Nat.le_refl _) _⟩
    all_goals
      go_enter Try.func29, Try.ntmps29
      go_wp2
      go_ret
      exact ⟨ret_bool HF.out.symm, hc1.below⟩
  · have HF : Hid (s.wf = (okAlpha s.A.data.toList && okBans s.A.data.toList s.bs)) := Lib.hid (by unfold Sch.wf wf; rw [hno, Bool.true_and])
    unfold okHead at hno
    rw [size_toList] at hno
    simp only [Bool.and_eq_true, decide_eq_true_eq, Bool.not_eq_true'] at hno
    obtain ⟨⟨⟨⟨⟨h1, h2⟩, h3⟩, h4⟩, h5⟩, h6⟩ := hno
    have hcase : s.chk = false ∨ (s.chk = true ∧ ((s.A.size : Int) % 2 == 1) = false) := by
      cases hchk : s.chk
      · exact .inl rfl
      · right
        refine ⟨rfl, ?_⟩
        rw [hchk] at h6
        simp only [Bool.true_and, beq_eq_false_iff_ne] at h6
        rw [beq_eq_false_iff_ne]; omega
    have d1 : decide ((s.A.size : Int) < 2) = false := by rw [decide_eq_false_iff_not]; omega
    have d2 : decide (36 < (s.A.size : Int)) = false := by rw [decide_eq_false_iff_not]; omega
    have d3 : decide (s.L < 1) = false := by rw [decide_eq_false_iff_not]; omega
    have d4 : decide (16 < s.L) = false := by rw [decide_eq_false_iff_not]; omega
    have d5 : decide (16 < (s.bs.length : Int)) = false := by rw [decide_eq_false_iff_not]; omega
    have HAL : Hid (s.A.size ≤ maxLen) := Lib.hid (by unfold maxLen; omega)
    clear h6
    obtain ⟨ck, hck⟩ : ∃ ck, s.chk = ck := ⟨_, rfl⟩
    have hval : s.val a cap = .agg #[.string s.A, .int .i64 s.L, .slice a s.bs.length cap, .bool ck] := by unfold Sch.val; rw [hck]
    rw [hck] at hcase c3
    have HCK := Lib.hid hck
    have hbw : boxW s a cap w = w.alloc (.cells #[.string s.A, .int .i64 s.L, .slice a s.bs.length cap, .bool ck] 24) := by unfold boxW; rw [hck]
    rw [hval]
    rw [hbw] at hc1 c0 c1 c2 c3
    clear hck hval hbw
    rcases hcase with rfl | ⟨rfl, h7⟩
    all_goals
      go_enter Try.func29, Try.ntmps29
      go_wp2_with fail
      go_loopw [3] (fun vi wr => ∃ k : Nat, k ≤ s.A.size ∧ vi = .int .i64 k ∧ Hid (∀ j, j < k → okAt s.A.data.toList j = true) ∧ Ctx s a cap w w.heap.size wr) (fun vi _ => s.A.size - (intOf vi).toNat)
      case atStart => exact ⟨0, Nat.zero_le _, rfl, Lib.hid (fun j hj => by omega), hc1⟩
      case round =>
        obtain ⟨k, hk, rfl, hok, hcr⟩ := hrel
        clear hc1 c0 c1 c2 c3
        have c0 := hcr.c0
        have c2 := hcr.c2
        by_cases hlt : k < s.A.size
        · go_wp2_with fail
          refine (value_any s.A s.A[k] HAL.out).mono ?_
          rintro e w' ⟨rfl, rfl⟩
          have hle : Lib.indexByte s.A.data.toList s.A[k] ≤ k := by
            have := index_self_le (A := s.A.data.toList) (i := k) (by rw [size_toList]; exact hlt)
            rwa [show s.A.data.toList.getD k 0 = s.A[k] by rw [bt_get hlt]; rfl] at this
          by_cases hix : Lib.indexByte s.A.data.toList s.A[k] = k
          · have hdx : (Lib.indexByte s.A.data.toList s.A[k] != (k : Int)) = false := by rw [bne_eq_false_iff_eq]; exact hix
            cases hob : okByte s.A[k]
            · have HNO := Lib.hid (alpha_not (A := s.A.data.toList) (k := k) (by rw [size_toList]; exact hlt) (by rw [okAt_of hlt, hob]; rfl))
              have hc := okByte_false.1 hob
              have hbx : (decide (48 ≤ (s.A[k].toNat : Int)) = false ∧ decide (65 ≤ (s.A[k].toNat : Int)) = false) ∨
                  (decide (48 ≤ (s.A[k].toNat : Int)) = true ∧ decide ((s.A[k].toNat : Int) ≤ 57) = false ∧ decide (65 ≤ (s.A[k].toNat : Int)) = false) ∨
                  (decide (48 ≤ (s.A[k].toNat : Int)) = true ∧ decide ((s.A[k].toNat : Int) ≤ 57) = false ∧ decide (65 ≤ (s.A[k].toNat : Int)) = true ∧ decide ((s.A[k].toNat : Int) ≤ 90) = false) := by
                simp only [decide_eq_true_eq, decide_eq_false_iff_not]; omega
              clear hob hix hle hc
              rcases hbx with ⟨b1, b2⟩ | ⟨b1, b2, b3⟩ | ⟨b1, b2, b3, b4⟩
              all_goals
                go_wp2_with fail
                go_ret
                exact ⟨ret_bool (by rw [HF.out, HNO.out]; rfl), hcr.below⟩
            · have hc := okByte_true.1 hob
              have HAT : Hid (okAt s.A.data.toList k = true) := Lib.hid (by rw [okAt_of hlt, hob, decide_eq_true (by omega)]; rfl)
              have hbx : (decide (48 ≤ (s.A[k].toNat : Int)) = true ∧ decide ((s.A[k].toNat : Int) ≤ 57) = true) ∨
                  (decide (48 ≤ (s.A[k].toNat : Int)) = true ∧ decide ((s.A[k].toNat : Int) ≤ 57) = false ∧ decide (65 ≤ (s.A[k].toNat : Int)) = true ∧ decide ((s.A[k].toNat : Int) ≤ 90) = true) := by
                simp only [decide_eq_true_eq, decide_eq_false_iff_not]; omega
              clear hob hix hle hc
              rcases hbx with ⟨b1, b2⟩ | ⟨b1, b2, b3, b4⟩
              all_goals
                go_wp2_with fail
                go_roundw
                case rel =>
                  refine ⟨k + 1, by omega, by go_num, Lib.hid (fun j hj => ?_), hcr⟩
                  by_cases hjk : j < k
                  · exact hok.out j hjk
                  · obtain rfl : j = k := by omega
                    exact HAT.out
                case measure => simp [intOf]; omega
          · have hdx : (Lib.indexByte s.A.data.toList s.A[k] != (k : Int)) = true := by rw [bne_iff_ne]; exact hix
            have HNO := Lib.hid (alpha_not (A := s.A.data.toList) (k := k) (by rw [size_toList]; exact hlt) (by rw [okAt_of hlt, decide_eq_false (by omega), Bool.and_false]))
            clear hix hle
            go_wp2_with fail
            go_ret
            exact ⟨ret_bool (by rw [HF.out, HNO.out]; rfl), hcr.below⟩
        · have HALP : Hid (okAlpha s.A.data.toList = true) := Lib.hid (by
            unfold okAlpha
            rw [List.all_eq_true]
            intro j hj
            refine hok.out j ?_
            rw [size_toList] at hj
            have := List.mem_range.1 hj
            omega)
          clear hok hk
          obtain ⟨wo, rfl⟩ : ∃ wo : World, wo = wr := ⟨_, rfl⟩
          go_wp2_with fail
          go_loopw [5] (fun vi wr => ∃ k : Nat, k ≤ s.bs.length ∧ vi = .int .i64 k ∧ Hid (okBans s.A.data.toList (s.bs.take k) = true) ∧ Ctx s a cap w w.heap.size wr) (fun vi _ => s.bs.length - (intOf vi).toNat)
          case atStart => exact ⟨0, Nat.zero_le _, rfl, Lib.hid rfl, hcr⟩
          case round =>
            obtain ⟨k, hk, rfl, hkb, hcr2⟩ := hrel
            clear hcr c0 c2
            have c0 := hcr2.c0
            have c2 := hcr2.c2
            by_cases hlt2 : k < s.bs.length
            · obtain ⟨bb, off, ha, hcell⟩ := hcr2.in_.strs (by omega)
              have hce := hcell.out k hlt2
              have hbsz : (s.bs.getD k ⟨#[]⟩).size ≤ maxLen := hcr2.in_.bans _ (by rw [List.getD_eq_getElem?_getD, List.getElem?_eq_getElem hlt2]; simp)
              have htk := okBans_take s.A.data.toList s.bs k hlt2
              obtain ⟨ban, hban⟩ : ∃ ban, ban = s.bs.getD k ⟨#[]⟩ := ⟨_, rfl⟩
              rw [← hban] at hce hbsz htk
              have HBAN := Lib.hid hban
              have HTK := Lib.hid htk
              have HBS := Lib.hid hbsz
              clear hban htk hbsz
              subst ha
              by_cases hb1 : 1 ≤ ban.size ∧ ban.size ≤ 8
              · obtain ⟨hb1, hb2⟩ := hb1
                have e1 : decide ((ban.size : Int) < 1) = false := by rw [decide_eq_false_iff_not]; omega
                have e2 : decide (8 < (ban.size : Int)) = false := by rw [decide_eq_false_iff_not]; omega
                cases hob : ofB ban.data.toList s.A.data.toList
                · have HFIN := Lib.hid (okBans_no (A := s.A.data.toList) hlt2 (by rw [← HBAN.out]; unfold okBan; rw [hob, Bool.and_false]))
                  have HOB := Lib.hid hob
                  go_wp2_with fail
                  go_quiet ((go_at_call 54; exact Calls.quiet_of_same ((of_ref _ _ _ HBS.out HAL.out).mono fun e w' h => ⟨h.1, h.2.symm⟩)))
                  go_wp2
                  go_ret
                  exact ⟨ret_bool (by rw [HF.out, HFIN.out, Bool.and_false]), (hcr2.next (below_drewN _ _)).below⟩
                · have HOB := Lib.hid hob
                  go_wp2_with fail
                  go_quiet ((go_at_call 54; exact Calls.quiet_of_same ((of_ref _ _ _ HBS.out HAL.out).mono fun e w' h => ⟨h.1, h.2.symm⟩)))
                  go_wp2
                  go_roundw
                  case rel => exact ⟨k + 1, by omega, by go_num, Lib.hid (by rw [HTK.out, hkb.out]; unfold okBan; rw [HOB.out, decide_eq_true hb1, decide_eq_true hb2]; rfl), hcr2.next (below_drewN _ _)⟩
                  case measure => simp [intOf]; omega
              · have HFIN := Lib.hid (okBans_no (A := s.A.data.toList) hlt2 (by
                  rw [← HBAN.out]; unfold okBan
                  by_cases h1 : 1 ≤ ban.size
                  · rw [decide_eq_false (show ¬ ban.size ≤ 8 by omega), Bool.and_false, Bool.false_and]
                  · rw [decide_eq_false h1, Bool.false_and, Bool.false_and]))
                have hb2 : decide ((ban.size : Int) < 1) = true ∨ (decide ((ban.size : Int) < 1) = false ∧ decide (8 < (ban.size : Int)) = true) := by
                  simp only [decide_eq_true_eq, decide_eq_false_iff_not]; omega
                clear hb1
                rcases hb2 with e1 | ⟨e1, e2⟩
                all_goals
                  go_wp2_with fail
                  go_quiet (fail)
                  go_wp2
                  go_ret
                  exact ⟨ret_bool (by rw [HF.out, HFIN.out, Bool.and_false]), (hcr2.next (below_drewN _ _)).below⟩
            · obtain rfl : k = s.bs.length := by omega
              have hfin := hkb.out
              rw [List.take_of_length_le (Nat.le_refl _)] at hfin
              have HFIN := Lib.hid hfin
              clear hfin
              go_wp2
              go_ret
              exact ⟨ret_bool (by rw [HF.out, HFIN.out, HALP.out]; rfl), hcr2.below⟩
end
end Go.Proofs.Yteleehldcpjndaa
