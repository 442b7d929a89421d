/- The contract of the reference's Mask. Condition: the scheme is well-formed, its parts are in memory. -/
import Derived.Test.YteleehldcpjndaaRefJ
import Derived.Test.YteleehldcpjndaaLawC
namespace Go.Proofs.Yteleehldcpjndaa
open Go Go.RowKit

section
variable {w : World} {s : Sch} {a : Option Addr} {cap : Nat}

set_option maxRecDepth 100000 in
set_option maxHeartbeats 1000000 in
theorem mask_ref (W : s.Wf) (h : s.In w a) (x : ByteArray) (hx : x.size ≤ 1000) :
    Calls Try.prog 38 #[s.val a cap, .string x] w fun e w' => e = .returned (.bool (s.okM x)) ∧ Below w.heap.size w w' := by
  have hc1 := Ctx.start' (cap := cap) h
  have HAL := Lib.hid h.alpha
  have hL1 := W.l1
  have hL16 := W.l16
  have hlong : s.L + (if s.chk then 1 else 0) = (sz s.L.toNat s.chk : Nat) := by unfold sz; cases s.chk <;> simp <;> omega
  have HLONG := Lib.hid hlong
  have c0 := hc1.c0
  have c1 := hc1.c1
  have c2 := hc1.c2
  have c3 := hc1.c3
  clear h hlong W
  unfold Sch.val
  go_enter Try.func38, Try.ntmps38
  go_wp2_with fail
  change Calls _ _ _ (boxW s a cap w) _
  generalize boxW s a cap w = w1 at *
  refine (long_any (s := s) (a := a) (cap := cap) (by omega)).mono ?_
  rintro e w2 ⟨rfl, hb2⟩
  rw [HLONG.out]
  have hc2 := hc1.next hb2
  clear hc1 hb2 c0 c1 c2 c3
  by_cases hl : x.size = sz s.L.toNat s.chk
  · have HS : Hid (s.okM x = ofB x.data.toList (s.A.data.toList ++ [63])) := Lib.hid (by
      unfold Sch.okM
      rw [decide_eq_true hl, Bool.true_and])
    have hd : ((x.size : Int) != (sz s.L.toNat s.chk : Nat)) = false := by rw [bne_eq_false_iff_eq, hl]
    clear hl
    generalize sz s.L.toNat s.chk = z at *
    go_wp2_with fail
    go_loopw [5] (fun vi wr => ∃ i : Nat, i ≤ x.size ∧ vi = .int .i64 i ∧ Hid (∀ j (hj : j < x.size), j < i → (s.A.data.toList ++ [63]).contains x[j] = true) ∧ Ctx s a cap w w.heap.size wr)
      (fun vi _ => x.size - (intOf vi).toNat)
    case atStart => exact ⟨0, Nat.zero_le _, rfl, Lib.hid (fun j _ hj => by omega), hc2⟩
    case round =>
      clear hc2
      obtain ⟨i, hi, rfl, hall, hcr⟩ := hrel
      have c0 := hcr.c0
      by_cases hlt : i < x.size
      · by_cases h63 : x[i] = 63
        · have hd1 : ((x[i].toNat : Int) != 63) = false := by rw [int_ne_63, bne_eq_false_iff_eq]; exact h63
          have HN : Hid ((s.A.data.toList ++ [63]).contains x[i] = true) := Lib.hid (by rw [h63]; simp)
          clear h63
          go_wp2_with fail
          go_quiet (fail)
          have hcr2 := hcr.next (below_drewN wr nq)
          go_wp2_with fail
          go_roundw
          case rel =>
            refine ⟨i + 1, by omega, by go_num, Lib.hid (fun j hj hji => ?_), hcr2⟩
            by_cases hje : j = i
            · subst hje; exact HN.out
            · exact hall.out j hj (by omega)
          case measure => simp [intOf]; omega
        · have hd1 : ((x[i].toNat : Int) != 63) = true := by rw [int_ne_63, bne_iff_ne]; exact h63
          have hge := Lib.indexByte_ge s.A.data.toList x[i]
          have hcon := Lib.contains_iff_indexByte s.A.data.toList x[i]
          by_cases hv : Lib.indexByte s.A.data.toList x[i] < 0
          · have hd2 : decide (Lib.indexByte s.A.data.toList x[i] < 0) = true := decide_eq_true hv
            have HF : Hid (s.okM x = false) := Lib.hid (by
              rw [HS.out, ← Bool.not_eq_true]
              intro hc
              unfold ofB at hc
              have h1 := (List.all_eq_true.1 hc) x[i] (by simp [ByteArray.getElem_eq_getElem_data])
              have h2 : s.A.data.toList.contains x[i] = true := by
                simp only [List.contains_eq_mem, List.mem_append, decide_eq_true_eq] at h1 ⊢
                rcases h1 with h1 | h1
                · exact h1
                · exact absurd (by simpa using h1) h63
              rw [h2] at hcon
              have : 0 ≤ Lib.indexByte s.A.data.toList x[i] := by simpa using hcon.symm
              omega)
            clear h63 hcon
            go_wp2_with fail
            go_quiet ((go_at_call 25; exact Calls.quiet_of_same ((value_any _ _ HAL.out).mono fun e w' h => ⟨h.1, h.2.symm⟩)))
            have hcr2 := hcr.next (below_drewN wr nq)
            go_wp2_with fail
            go_ret
            exact ⟨by rw [HF.out]; rfl, hcr2.below⟩
          · have hd2 : decide (Lib.indexByte s.A.data.toList x[i] < 0) = false := decide_eq_false hv
            have HN : Hid ((s.A.data.toList ++ [63]).contains x[i] = true) := Lib.hid (by
              have : s.A.data.toList.contains x[i] = true := by rw [hcon]; simp; omega
              simp only [List.contains_eq_mem, List.mem_append, decide_eq_true_eq] at this ⊢
              exact .inl this)
            clear h63 hcon
            go_wp2_with fail
            go_quiet ((go_at_call 25; exact Calls.quiet_of_same ((value_any _ _ HAL.out).mono fun e w' h => ⟨h.1, h.2.symm⟩)))
            have hcr2 := hcr.next (below_drewN wr nq)
            go_wp2_with fail
            go_roundw
            case rel =>
              refine ⟨i + 1, by omega, by go_num, Lib.hid (fun j hj hji => ?_), hcr2⟩
              by_cases hje : j = i
              · subst hje; exact HN.out
              · exact hall.out j hj (by omega)
            case measure => simp [intOf]; omega
      · obtain rfl : i = x.size := by omega
        have HT : Hid (s.okM x = true) := Lib.hid (by
          rw [HS.out]
          unfold ofB
          rw [List.all_eq_true]
          intro c hc
          obtain ⟨j, hj, rfl⟩ := List.getElem_of_mem hc
          have hj2 : j < x.size := by rw [size_toList] at hj; exact hj
          have := hall.out j hj2 hj2
          simpa [ByteArray.getElem_eq_getElem_data] using this)
        go_wp2_with fail
        go_ret
        exact ⟨by rw [HT.out]; rfl, hcr.below⟩
  · have HF : Hid (s.okM x = false) := Lib.hid (by
      unfold Sch.okM
      rw [decide_eq_false hl, Bool.false_and])
    have hd : ((x.size : Int) != (sz s.L.toNat s.chk : Nat)) = true := by rw [bne_iff_ne]; omega
    clear hl
    generalize sz s.L.toNat s.chk = z at *
    go_wp2_with fail
    go_ret
    exact ⟨by rw [HF.out]; rfl, hc2.below⟩
end
end Go.Proofs.Yteleehldcpjndaa
