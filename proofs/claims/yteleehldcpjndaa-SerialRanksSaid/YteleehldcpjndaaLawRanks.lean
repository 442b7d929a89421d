/- SerialRanks returns true. Condition: the scheme's parts are in memory. -/
import Derived.Test.YteleehldcpjndaaLawC
namespace Go.Proofs.Yteleehldcpjndaa
open Go Go.RowKit

section
variable {w : World} {s : Sch} {a : Option Addr} {cap : Nat}

set_option maxRecDepth 100000 in
set_option maxHeartbeats 2000000 in
theorem ranks_law (h : s.In w a) (mask : ByteArray) (hmask : mask.size ≤ maxLen) (k : Int) :
    Calls Try.prog 11 #[s.val a cap, .string mask, .int .i64 k] w fun e w' => e = .returned (.bool true) ∧ Below w.heap.size w w' := by
  have hc1 := Ctx.start' (cap := cap) h
  have HM := Lib.hid hmask
  unfold maxLen at hmask
  clear h
  unfold Sch.val
  go_enter Try.func11, Try.ntmps11
  go_wp2_with fail
  change Calls _ _ _ (boxW s a cap w) _
  generalize boxW s a cap w = w1 at *
  refine (few_any (cap := cap) hc1.in_).mono ?_
  rintro e w2 ⟨b, rfl, hb2⟩
  have hc2 := hc1.next hb2
  clear hc1 hb2
  have hearly : b = false ∨ 100 < mask.size ∨ (b = true ∧ mask.size ≤ 100) := by cases b <;> simp; omega
  rcases hearly with rfl | h100 | ⟨rfl, h100⟩
  · go_wp2_with fail
    refine awake_any.mono ?_
    rintro e w3 ⟨rfl, hb3⟩
    have hc3 := hc2.next hb3
    go_wp2
    go_ret
    exact ⟨rfl, hc3.below⟩
  · cases b
    all_goals
      go_wp2_with fail
      refine awake_any.mono ?_
      rintro e w3 ⟨rfl, hb3⟩
      have hc3 := hc2.next hb3
      go_wp2
      go_ret
      exact ⟨rfl, hc3.below⟩
  · have c0 := hc2.c0
    have c1 := hc2.c1
    have c2 := hc2.c2
    have c3 := hc2.c3
    by_cases hgood : s.err = 0 ∧ s.okM mask = true
    · obtain ⟨he, hok⟩ := hgood
      have O := Sch.ok_of he
      have HE := Lib.hid he
      have HOK := Lib.hid hok
      clear he hok
      go_wp2_with fail
      refine (matches_ok (cap := cap) mask HM.out hc2.in_ HE.out HOK.out).mono ?_
      rintro e w3 ⟨rfl, hb3⟩
      have hc3 := hc2.next hb3
      clear hc2 hb3 c0 c1 c2 c3
      have c0 := hc3.c0
      have c1 := hc3.c1
      have c2 := hc3.c2
      have c3 := hc3.c3
      have hcap : (s.mat mask).length ≤ 1099511627776 := by have := O.cap; have := s.mat_le mask; unfold capM at *; omega
      by_cases hk : k < 0 ∨ ((s.mat mask).length : Int) ≤ k
      · have HK := Lib.hid hk
        have hk3 : k < 0 ∨ (0 ≤ k ∧ ((s.mat mask).length : Int) ≤ k) := by omega
        clear hk
        go_wp2_with fail
        refine (match_range (cap := cap) mask k HM.out hc3.in_ HE.out HOK.out HK.out).mono ?_
        rintro e w4 ⟨rfl, hb4⟩
        have hc4 := hc3.next hb4
        clear hc3 hb4 c0 c1 c2 c3
        rcases hk3 with h1 | ⟨h1, h2⟩
        all_goals
          go_wp2_with fail
          refine awake_any.mono ?_
          rintro e w5 ⟨rfl, hb5⟩
          have hc5 := hc4.next hb5
          go_wp2
          go_ret
          exact ⟨rfl, hc5.below⟩
      · obtain ⟨k', rfl⟩ := Int.eq_ofNat_of_zero_le (show 0 ≤ k by omega)
        have hk' : k' < (s.mat mask).length := by omega
        obtain ⟨T, hT⟩ : ∃ T, (s.mat mask)[k']? = some T := ⟨_, List.getElem?_eq_getElem hk'⟩
        obtain ⟨n, hn, hr1, hr2, hlt, hfit⟩ := mat_rank O hT
        have hTm : T ∈ s.bods := List.mem_of_getElem? hn
        have hl16 := O.l16
        have hsz : sz s.L.toNat s.chk ≤ 17 := by unfold sz; split <;> omega
        have hmsz : mask.size = sz s.L.toNat s.chk := by have := HOK.out; unfold Sch.okM at this; simp only [Bool.and_eq_true, decide_eq_true_eq] at this; exact this.1
        rw [fits_ser O hTm hmsz] at hfit
        obtain ⟨x, hx⟩ : ∃ x : ByteArray, x = ⟨(s.ser T).toArray⟩ := ⟨_, rfl⟩
        have hxl : x.data.toList = s.ser T := by rw [hx]
        have hxs : x.size = sz s.L.toNat s.chk := by rw [← size_toList, hxl, ser_len O hTm]
        have hse : s.serr x.data.toList = 0 := by rw [hxl]; exact ser_err O hTm
        have hnum : (s.bods.filter fun p => wlt p (s.word x.data.toList)).length = n := by rw [hxl]; exact num_of O hn
        rw [← hxl] at hfit
        have hx17 : x.size ≤ 17 := by omega
        have hmx : mask.size = x.size := by rw [hmsz, hxs]
        have hncap : n < 1099511627777 := Nat.lt_trans hlt O.cap
        have HT := Lib.hid hT
        have HX := Lib.hid hx
        have HSE := Lib.hid hse
        have HNUM := Lib.hid hnum
        have HF := Lib.hid hfit
        have HR1 := Lib.hid hr1
        have HR2 := Lib.hid hr2
        have HLT := Lib.hid hlt
        have HMX := Lib.hid hmx
        clear hk hT hn hr1 hr2 hlt hfit hTm hmsz hx hxl hxs hse hnum hmx
        go_wp2_with fail
        refine (match_ok (cap := cap) mask k' T HM.out hc3.in_ HE.out HOK.out HT.out).mono ?_
        rintro e w4 ⟨rfl, hb4⟩
        rw [← HX.out]
        have hc4 := hc3.next hb4
        clear hc3 hb4 c0 c1 c2 c3
        have c0 := hc4.c0
        have c1 := hc4.c1
        have c2 := hc4.c2
        have c3 := hc4.c3
        go_wp2_with fail
        refine (number_ok (cap := cap) x (by unfold maxLen; omega) hc4.in_ HE.out HSE.out).mono ?_
        rintro e w5 ⟨rfl, hb5⟩
        rw [HNUM.out]
        have hc5 := hc4.next hb5
        clear hc4 hb5 c0 c1 c2 c3
        have c0 := hc5.c0
        have c1 := hc5.c1
        have c2 := hc5.c2
        have c3 := hc5.c3
        go_wp2_with fail
        refine (below_in (cap := cap) mask n HM.out hc5.in_ HE.out HOK.out (Nat.le_of_lt HLT.out)).mono ?_
        rintro e w6 ⟨rfl, hb6⟩
        rw [HR1.out]
        have hc6 := hc5.next hb6
        clear hc5 hb6 c0 c1 c2 c3
        have c0 := hc6.c0
        have c1 := hc6.c1
        have c2 := hc6.c2
        have c3 := hc6.c3
        go_wp2_with fail
        rw [show ((n : Int) + 1) = ((n + 1 : Nat) : Int) by omega]
        refine (below_in (cap := cap) mask (n + 1) HM.out hc6.in_ HE.out HOK.out HLT.out).mono ?_
        rintro e w7 ⟨rfl, hb7⟩
        rw [HR2.out]
        have hc7 := hc6.next hb7
        clear hc6 hb7 c0 c1 c2 c3
        go_wp2_with fail
        refine (refmatches_any mask x _ (by rw [HMX.out]; exact Nat.le_refl _) (by unfold maxLen; omega)).mono ?_
        rintro e w8 ⟨rfl, hb8⟩
        rw [HF.out]
        have hc8 := hc7.next hb8
        go_wp2_with fail
        refine awake_any.mono ?_
        rintro e w9 ⟨rfl, hb9⟩
        have hc9 := hc8.next hb9
        go_wp2
        go_ret
        exact ⟨rfl, hc9.below⟩
    · have hbad : s.err ≠ 0 ∨ s.okM mask = false := by
        by_cases he : s.err = 0
        · right
          cases hh : s.okM mask
          · rfl
          · exact absurd ⟨he, hh⟩ hgood
        · exact .inl he
      have hd : (((if s.err = 0 then 4 else s.err : Nat) : Int) != 0) = true := by rw [bne_iff_ne]; split <;> omega
      have HB := Lib.hid hbad
      clear hgood hbad
      go_wp2_with fail
      refine (matches_bad (cap := cap) mask HM.out hc2.in_ HB.out).mono ?_
      rintro e w3 ⟨rfl, hb3⟩
      have hc3 := hc2.next hb3
      clear hc2 hb3 c0 c1 c2 c3
      generalize (if s.err = 0 then 4 else s.err) = er at *
      go_wp2_with fail
      refine awake_any.mono ?_
      rintro e w4 ⟨rfl, hb4⟩
      have hc4 := hc3.next hb4
      go_wp2
      go_ret
      exact ⟨rfl, hc4.below⟩
end
end Go.Proofs.Yteleehldcpjndaa
