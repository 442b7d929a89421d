/- SerialInverse returns true. Condition: the scheme's parts are in memory. -/
import Derived.Test.YteleehldcpjndaaLawB
namespace Go.Proofs.Yteleehldcpjndaa
open Go Go.RowKit

theorem vals_at (A x : ByteArray) (i : Nat) (hi : i < x.size) : Lib.indexByte A.data.toList x[i] = (vals A.data.toList x.data.toList).getD i 0 := by
  unfold vals
  rw [List.getD_eq_getElem?_getD, List.getElem?_map, Lib.data_getElem? x i hi]; rfl

section
variable {w : World} {s : Sch} {a : Option Addr} {cap : Nat}

/-- the walk's first world -/
def boxW (s : Sch) (a : Option Addr) (cap : Nat) (w : World) : World := w.alloc (.cells #[.string s.A, .int .i64 s.L, .slice a s.bs.length cap, .bool s.chk] 24)

theorem Ctx.start' (h : s.In w a) : Ctx s a cap w w.heap.size (boxW s a cap w) := Ctx.start h

set_option maxRecDepth 100000 in
set_option maxHeartbeats 2000000 in
theorem inverse_law (h : s.In w a) (n m : Int) :
    Calls Try.prog 4 #[s.val a cap, .int .i64 n, .int .i64 m] w fun e w' => e = .returned (.bool true) ∧ Below w.heap.size w w' := by
  have hc1 := Ctx.start' (cap := cap) h
  clear h
  unfold Sch.val
  go_enter Try.func4, Try.ntmps4
  go_wp2_with fail
  change Calls _ _ _ (boxW s a cap w) _
  generalize boxW s a cap w = w1 at *
  refine (few_any (cap := cap) hc1.in_).mono ?_
  rintro e w2 ⟨b, rfl, hb2⟩
  have hc2 := hc1.next hb2
  clear hc1 hb2
  cases b
  · go_wp2_with fail
    refine awake_any.mono ?_
    rintro e w3 ⟨rfl, hb3⟩
    have hc3 := hc2.next hb3
    go_wp2
    go_ret
    exact ⟨rfl, hc3.below⟩
  · have c0 := hc2.c0
    have c1 := hc2.c1
    have c2 := hc2.c2
    have c3 := hc2.c3
    by_cases he : s.err = 0
    · have O := Sch.ok_of he
      have HE := Lib.hid he
      clear he
      go_wp2_with fail
      refine (count_ok (cap := cap) hc2.in_ HE.out).mono ?_
      rintro e w3 ⟨rfl, hb3⟩
      have hc3 := hc2.next hb3
      clear hc2 hb3 c0 c1 c2 c3
      have hcap : s.bods.length ≤ 1099511627776 := by have := O.cap; unfold capM at this; omega
      by_cases hbad : n < 0 ∨ (0 ≤ n ∧ m < 0) ∨ (0 ≤ n ∧ 0 ≤ m ∧ (s.bods.length : Int) ≤ n) ∨ (0 ≤ n ∧ 0 ≤ m ∧ n < s.bods.length ∧ (s.bods.length : Int) ≤ m)
      · rcases hbad with h1 | ⟨h1, h2⟩ | ⟨h1, h2, h3⟩ | ⟨h1, h2, h3, h4⟩
        all_goals
          go_wp2_with fail
          refine awake_any.mono ?_
          rintro e w4 ⟨rfl, hb4⟩
          have hc4 := hc3.next hb4
          go_wp2
          go_ret
          exact ⟨rfl, hc4.below⟩
      · obtain ⟨n', rfl⟩ := Int.eq_ofNat_of_zero_le (show 0 ≤ n by omega)
        obtain ⟨m', rfl⟩ := Int.eq_ofNat_of_zero_le (show 0 ≤ m by omega)
        have hn : n' < s.bods.length := by omega
        have hm : m' < s.bods.length := by omega
        obtain ⟨T, hT⟩ : ∃ T, s.bods[n']? = some T := ⟨_, List.getElem?_eq_getElem hn⟩
        obtain ⟨U, hU⟩ : ∃ U, s.bods[m']? = some U := ⟨_, List.getElem?_eq_getElem hm⟩
        have hTm := List.mem_of_getElem? hT
        have hUm := List.mem_of_getElem? hU
        have hl1 := O.l1
        have hl16 := O.l16
        have ha36 := O.a36
        obtain ⟨x, hx⟩ : ∃ x : ByteArray, x = ⟨(s.ser T).toArray⟩ := ⟨_, rfl⟩
        obtain ⟨y, hy⟩ : ∃ y : ByteArray, y = ⟨(s.ser U).toArray⟩ := ⟨_, rfl⟩
        have hxl : x.data.toList = s.ser T := by rw [hx]
        have hyl : y.data.toList = s.ser U := by rw [hy]
        have hxs : x.size = sz s.L.toNat s.chk := by rw [← size_toList, hxl, ser_len O hTm]
        have hys : y.size = sz s.L.toNat s.chk := by rw [← size_toList, hyl, ser_len O hUm]
        have hsz : sz s.L.toNat s.chk ≤ 17 := by unfold sz; split <;> omega
        have hse : s.serr x.data.toList = 0 := by rw [hxl]; exact ser_err O hTm
        have hnum : (s.bods.filter fun p => wlt p (s.word x.data.toList)).length = n' := by rw [hxl]; exact num_of O hT
        have hlong : s.L + (if s.chk then 1 else 0) = (sz s.L.toNat s.chk : Nat) := by unfold sz; cases s.chk <;> simp <;> omega
        have HT := Lib.hid hT
        have HU := Lib.hid hU
        have HX := Lib.hid hx
        have HY := Lib.hid hy
        have HXL := Lib.hid hxl
        have HYL := Lib.hid hyl
        have HXS := Lib.hid hxs
        have HYS := Lib.hid hys
        have HSE := Lib.hid hse
        have HNUM := Lib.hid hnum
        have HLONG := Lib.hid hlong
        have hx17 : x.size ≤ 17 := by omega
        clear hbad hT hU hTm hUm hx hy hxl hyl hxs hys hse hnum hlong
        have c0 := hc3.c0
        have c1 := hc3.c1
        have c2 := hc3.c2
        have c3 := hc3.c3
        go_wp2_with fail
        refine (text_ok (cap := cap) n' hc3.in_ HE.out T HT.out).mono ?_
        rintro e w4 ⟨rfl, hb4⟩
        rw [← HX.out]
        have hc4 := hc3.next hb4
        clear hc3 hb4 c0 c1 c2 c3
        have c0 := hc4.c0
        have c1 := hc4.c1
        have c2 := hc4.c2
        have c3 := hc4.c3
        go_wp2_with fail
        refine (text_ok (cap := cap) m' hc4.in_ HE.out U HU.out).mono ?_
        rintro e w5 ⟨rfl, hb5⟩
        rw [← HY.out]
        have hc5 := hc4.next hb5
        clear hc4 hb5 c0 c1 c2 c3
        have c0 := hc5.c0
        have c1 := hc5.c1
        have c2 := hc5.c2
        have c3 := hc5.c3
        go_wp2_with fail
        refine (number_ok (cap := cap) x (by unfold maxLen; omega) hc5.in_ HE.out HSE.out).mono ?_
        rintro e w6 ⟨rfl, hb6⟩
        rw [HNUM.out]
        have hc6 := hc5.next hb6
        clear hc5 hb6 c0 c1 c2 c3
        have c0 := hc6.c0
        have c1 := hc6.c1
        have c2 := hc6.c2
        have c3 := hc6.c3
        go_wp2_with fail
        refine (long_any (s := s) (cap := cap) (by omega)).mono ?_
        rintro e w7 ⟨rfl, hb7⟩
        rw [HLONG.out]
        have hc7 := hc6.next hb7
        clear hc6 hb7 c0 c1 c2 c3
        have hd1 : ((x.size : Int) != (sz s.L.toNat s.chk : Nat)) = false := by rw [bne_eq_false_iff_eq, HXS.out]
        have hd2 : ((y.size : Int) != (x.size : Int)) = false := by rw [bne_eq_false_iff_eq, HXS.out, HYS.out]
        have hAm := hc7.in_.alpha
        have hval : ∀ (i : Nat) (hi : i < x.size), Lib.indexByte s.A.data.toList x[i] = (vals s.A.data.toList (s.ser T)).getD i 0 := by
          intro i hi
          rw [← HXL.out]; exact vals_at s.A x i hi
        have hval2 : ∀ (i : Nat) (hi : i < y.size), Lib.indexByte s.A.data.toList y[i] = (vals s.A.data.toList (s.ser U)).getD i 0 := by
          intro i hi
          rw [← HYL.out]; exact vals_at s.A y i hi
        have HV := Lib.hid hval
        have HV2 := Lib.hid hval2
        have hyx : y.size = x.size := by rw [HXS.out, HYS.out]
        have HYX := Lib.hid hyx
        clear hval hval2 hyx
        go_wp2_with fail
        go_loopw [15] (fun ii wr => ∃ i : Nat, i ≤ x.size ∧ ii = .int .i64 i ∧ Hid (∀ j, j < i → (vals s.A.data.toList (s.ser T)).getD j 0 = (vals s.A.data.toList (s.ser U)).getD j 0) ∧ Ctx s a cap w w.heap.size wr)
          (fun ii _ => x.size - (intOf ii).toNat)
        case atStart => exact ⟨0, Nat.zero_le _, rfl, Lib.hid (fun j hj => by omega), hc7⟩
        case round =>
          obtain ⟨i, hi, rfl, hsame, hcr⟩ := hrel
          have c0 := hcr.c0
          by_cases hlt : i < x.size
          · have hlt2 : i < y.size := by rw [HYX.out]; exact hlt
            have e1 := HV.out i hlt
            have e2 := HV2.out i hlt2
            by_cases hne : Lib.indexByte s.A.data.toList x[i] = Lib.indexByte s.A.data.toList y[i]
            · have hd3 : (Lib.indexByte s.A.data.toList x[i] != Lib.indexByte s.A.data.toList y[i]) = false := by rw [bne_eq_false_iff_eq]; exact hne
              have hvv : (vals s.A.data.toList (s.ser T)).getD i 0 = (vals s.A.data.toList (s.ser U)).getD i 0 := by rw [← e1, ← e2]; exact hne
              have HVV := Lib.hid hvv
              clear hne e1 e2 hvv
              go_wp2_with fail
              go_quiet ((go_at_call 25; exact Calls.quiet_of_same ((value_any _ _ hAm).mono fun e w' h => ⟨h.1, h.2.symm⟩)))
              go_wp2
              go_roundw
              case rel =>
                refine ⟨i + 1, by omega, by go_num, Lib.hid (fun j hj => ?_), hcr.next (below_drewN _ _)⟩
                by_cases hji : j = i
                · subst hji; exact HVV.out
                · exact hsame.out j (by omega)
              case measure => simp [intOf]; omega
            · have hd3 : (Lib.indexByte s.A.data.toList x[i] != Lib.indexByte s.A.data.toList y[i]) = true := by rw [bne_iff_ne]; exact hne
              rw [e1, e2] at hne
              obtain ⟨hnm, hiff⟩ := inverse_diff (Sch.ok_of HE.out) HT.out HU.out hsame.out hne
              rw [← e1, ← e2] at hiff
              have HIFF := Lib.hid hiff
              have hd5 : ((n' : Int) != (m' : Int)) = true := by rw [bne_iff_ne]; omega
              clear hne e1 e2 hiff hnm hn hm
              go_wp2_with fail
              go_quiet ((go_at_call 25; exact Calls.quiet_of_same ((value_any _ _ hAm).mono fun e w' h => ⟨h.1, h.2.symm⟩)))
              go_wp2_with fail
              · refine awake_any.mono ?_
                rintro e w8 ⟨rfl, hb8⟩
                go_wp2_with fail
                go_ret
                exact ⟨rfl, ((hcr.next (below_drewN _ _)).next hb8).below⟩
          · obtain rfl : i = x.size := by omega
            have hnm := inverse_same (Sch.ok_of HE.out) HT.out HU.out (fun j hj => hsame.out j (by rw [HXS.out]; exact hj))
            have hd4 : ((n' : Int) == (m' : Int)) = true := by rw [beq_iff_eq, hnm]
            clear hnm hn hm
            go_wp2_with fail
            refine awake_any.mono ?_
            rintro e w8 ⟨rfl, hb8⟩
            go_wp2_with fail
            go_ret
            exact ⟨rfl, (hcr.next hb8).below⟩
    · have hd : ((s.err : Int) != 0) = true := by rw [bne_iff_ne]; omega
      go_wp2_with fail
      refine (count_err (cap := cap) hc2.in_ he).mono ?_
      rintro e w3 ⟨rfl, hb3⟩
      have hc3 := hc2.next hb3
      clear hc2 hb3 c0 c1 c2 c3 he
      go_wp2_with fail
      refine awake_any.mono ?_
      rintro e w4 ⟨rfl, hb4⟩
      have hc4 := hc3.next hb4
      go_wp2
      go_ret
      exact ⟨rfl, hc4.below⟩
end
end Go.Proofs.Yteleehldcpjndaa
