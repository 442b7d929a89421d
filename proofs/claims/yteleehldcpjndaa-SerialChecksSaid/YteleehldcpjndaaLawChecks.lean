/- SerialChecks returns true. Condition: the scheme's parts are in memory. -/
import Derived.Test.YteleehldcpjndaaLawTexts
import Derived.Test.YteleehldcpjndaaLawE
import Derived.Test.YteleehldcpjndaaSerQ
import Derived.Test.YteleehldcpjndaaRefL
namespace Go.Proofs.Yteleehldcpjndaa
open Go Go.RowKit

section
variable {w : World} {s : Sch} {a : Option Addr} {cap : Nat}

set_option maxRecDepth 100000 in
set_option maxHeartbeats 4000000 in
theorem checks_law (h : s.In w a) (hcap : a = none → cap = 0) (x : ByteArray) (hx : x.size ≤ maxLen) (n : Int) :
    Calls Try.prog 15 #[s.val a cap, .string x, .int .i64 n] w fun e w' => e = .returned (.bool true) ∧ Below w.heap.size w w' := by
  have hc1 := Ctx.start' (cap := cap) h
  have HX := Lib.hid hx
  have HCAP := Lib.hid hcap
  have HLEN := Lib.hid h.len
  unfold maxLen at hx
  clear h hcap
  unfold Sch.val
  go_enter Try.func15, Try.ntmps15
  go_wp2_with fail
  change Calls _ _ _ (boxW s a cap w) _
  generalize boxW s a cap w = w1 at *
  refine (few_len (cap := cap) hc1.in_).mono ?_
  rintro e w2 ⟨⟨b, rfl, hbl⟩, hb2⟩
  have hc2 := hc1.next hb2
  clear hc1 hb2
  have hearly : b = false ∨ (b = true ∧ 100 < x.size) ∨ (b = true ∧ x.size ≤ 100) := by cases b <;> simp; omega
  rcases hearly with rfl | ⟨rfl, h100⟩ | ⟨rfl, h100⟩
  case inr.inr =>
    have hlen := hbl rfl
    clear hbl
    have c0 := hc2.c0
    have c1 := hc2.c1
    have c2 := hc2.c2
    have c3 := hc2.c3
    go_wp2_with fail
    refine (copied_any (cap := cap) hc2.in_ HCAP.out hlen).mono ?_
    rintro e w3 ⟨a3, cap3, rfl, hown⟩
    have hc3 := hc2.next hown.below
    have h0 := Ctx.start' (cap := cap3) hown.in_
    have hm4 : Ctx s a3 cap3 w w3.heap.size (boxW s a3 cap3 w3) := ⟨h0.box, h0.in_, hc3.below.trans (h0.below.mono hc3.below.size)⟩
    have hc4 := hc3.next h0.below
    clear c0 c1 c2 c3 hc2 hc3 h0 hown
    obtain ⟨ib, hib⟩ : ∃ ib, ib = w3.heap.size := ⟨_, rfl⟩
    rw [← hib] at hm4
    have c0 := hc4.c0
    have c1 := hc4.c1
    have c2 := hc4.c2
    have c3 := hc4.c3
    unfold boxW at c0 c1 c2 c3
    unfold Sch.val
    go_wp2_with fail
    change Calls _ _ _ (boxW s a3 cap3 w3) _
    rw [← hib]
    clear c0 c1 c2 c3 hib
    generalize boxW s a3 cap3 w3 = w4 at *
    refine (check_ref (cap := cap) hc4.in_).mono ?_
    rintro e w5 ⟨hb5, hcase⟩
    have hc5 := hc4.next hb5
    have hm5 := hm4.next hb5
    clear hc4 hm4 hb5
    rcases hcase with ⟨hne, rfl⟩ | ⟨he, m, rfl, hm⟩
    · have ha := (Below.refl w5.heap.size w5).alloc (Nat.le_refl _) (.cells #[nilS, nilS, nilS] 29)
      have hm6 := hm5.next ha
      clear hc5 ha
      have HNE := Lib.hid hne
      have HIF : Hid ((if s.err = 0 then 4 else s.err) = s.err) := Lib.hid (by rw [if_neg hne])
      have hne0 : ((s.err : Int) == 0) = false := by rw [beq_eq_false_iff_ne]; omega
      have hq : (s.err : Int) ≠ 0 := by omega
      clear hne
      have m0 := hm6.c0
      have m1 := hm6.c1
      have m2 := hm6.c2
      have m3 := hm6.c3
      clear hm5
      go_wp2_with fail
      change Calls _ _ _ (w5.alloc (.cells #[nilS, nilS, nilS] 29)) _
      generalize w5.alloc (.cells #[nilS, nilS, nilS] 29) = v0 at *
      generalize w5.heap.size = tb
      refine (check_err (cap := cap3) hm6.in_).mono ?_
      rintro e v1 ⟨rfl, hb⟩
      have k1 := hm6.next hb
      clear hm6 hb m0 m1 m2 m3
      have m0 := k1.c0
      have m1 := k1.c1
      have m2 := k1.c2
      have m3 := k1.c3
      have hdd : ((s.err : Int) != (s.err : Int)) = false := by simp
      go_wp2_with fail
      refine (count_err (cap := cap3) k1.in_ HNE.out).mono ?_
      rintro e v2 ⟨rfl, hb⟩
      have k2 := k1.next hb
      clear k1 hb m0 m1 m2 m3
      have m0 := k2.c0
      have m1 := k2.c1
      have m2 := k2.c2
      have m3 := k2.c3
      go_wp2_with fail
      refine (text_err (cap := cap3) n k2.in_ HNE.out).mono ?_
      rintro e v3 ⟨rfl, hb⟩
      have k3 := k2.next hb
      clear k2 hb m0 m1 m2 m3
      have m0 := k3.c0
      have m1 := k3.c1
      have m2 := k3.c2
      have m3 := k3.c3
      go_wp2_with fail
      refine (number_err (cap := cap3) x k3.in_ HNE.out).mono ?_
      rintro e v4 ⟨rfl, hb⟩
      have k4 := k3.next hb
      clear k3 hb m0 m1 m2 m3
      have m0 := k4.c0
      have m1 := k4.c1
      have m2 := k4.c2
      have m3 := k4.c3
      go_wp2_with fail
      refine (complete_err (cap := cap3) x k4.in_ HNE.out).mono ?_
      rintro e v5 ⟨rfl, hb⟩
      have k5 := k4.next hb
      clear k4 hb m0 m1 m2 m3
      have m0 := k5.c0
      have m1 := k5.c1
      have m2 := k5.c2
      have m3 := k5.c3
      go_wp2_with fail
      refine (matches_bad (cap := cap3) x HX.out k5.in_ (.inl HNE.out)).mono ?_
      rintro e v6 ⟨rfl, hb⟩
      rw [HIF.out]
      have k6 := k5.next hb
      clear k5 hb m0 m1 m2 m3
      have m0 := k6.c0
      have m1 := k6.c1
      have m2 := k6.c2
      have m3 := k6.c3
      go_wp2_with fail
      refine (match_bad (cap := cap3) x n HX.out k6.in_ (.inl HNE.out)).mono ?_
      rintro e v7 ⟨rfl, hb⟩
      rw [HIF.out]
      have k7 := k6.next hb
      clear k6 hb m0 m1 m2 m3
      have m0 := k7.c0
      have m1 := k7.c1
      have m2 := k7.c2
      have m3 := k7.c3
      go_wp2_with fail
      refine (below_bad (cap := cap3) x n HX.out k7.in_ (.inl HNE.out)).mono ?_
      rintro e v8 ⟨rfl, hb⟩
      rw [HIF.out]
      have k8 := k7.next hb
      clear k7 hb m0 m1 m2 m3
      have m0 := k8.c0
      have m1 := k8.c1
      have m2 := k8.c2
      have m3 := k8.c3
      go_wp2_with fail
      refine (near_err (cap := cap3) x k8.in_ HNE.out).mono ?_
      rintro e v9 ⟨rfl, hb⟩
      have k9 := k8.next hb
      clear k8 hb m0 m1 m2 m3
      have hde : ((s.err : Int) == (s.err : Int)) = true := by simp
      have hds : ((⟨#[]⟩ : ByteArray).toList == (⟨#[]⟩ : ByteArray).toList) = true := by simp
      generalize (s.err : Int) = er at *
      go_wp2_with fail
      refine awake_any.mono ?_
      rintro e v10 ⟨rfl, hb⟩
      have k10 := k9.next hb
      go_wp2
      go_ret
      exact ⟨rfl, k10.below⟩
    · obtain ⟨m1, hm1⟩ : ∃ m1, m1 = s.L.toNat + 1 := ⟨_, rfl⟩
      have HM1 := Lib.hid hm1
      rw [val_m1 hm1]
      have O := Sch.ok_of he
      have HE := Lib.hid he
      have hcap : s.bods.length ≤ 1099511627776 := by have := O.cap; unfold capM at this; omega
      have hr6 : LT s a cap m m1 w w5.heap.size (w5.alloc (rowsO s m m1)) := LT.start hc5 hm
      have hm6 := hm5.next ((Below.refl w5.heap.size w5).alloc (Nat.le_refl _) (rowsO s m m1))
      clear hm1 hc5 hm5 hm
      obtain ⟨tb, htb⟩ : ∃ tb, tb = w5.heap.size := ⟨_, rfl⟩
      rw [← htb] at hr6
      have m0 := hm6.c0
      have m1' := hm6.c1
      have m2 := hm6.c2
      have m3 := hm6.c3
      unfold rowsO at m0 m1' m2 m3
      have he2 : ((s.err : Int) != 0) = false := by rw [he]; rfl
      have he3 : ((s.err : Int) == 0) = true := by rw [he]; rfl
      clear he
      go_wp2_with fail
      change Calls _ _ _ (w5.alloc (rowsO s m m1)) _
      rw [← htb]
      clear m0 m1' m2 m3 htb
      generalize w5.alloc (rowsO s m m1) = v0 at *
      refine (check_err (cap := cap3) hm6.in_).mono ?_
      rintro e v1 ⟨rfl, hb⟩
      rw [HE.out]
      have k1 := hm6.next hb
      have r1 := hr6.next hb
      clear hm6 hr6 hb he2 he3
      have m0 := k1.c0
      have m1' := k1.c1
      have m2 := k1.c2
      have m3 := k1.c3
      go_wp2_with fail
      refine (count_ok (cap := cap3) k1.in_ HE.out).mono ?_
      rintro e v2 ⟨rfl, hb⟩
      have k2 := k1.next hb
      have r2 := r1.next hb
      clear k1 r1 hb m0 m1' m2 m3
      have c0 := r2.ctx.c0
      have c1 := r2.ctx.c1
      have c2 := r2.ctx.c2
      have c3 := r2.ctx.c3
      have t0 := r2.r0
      have t1 := r2.r1
      have t2 := r2.r2
      go_wp2_with fail
      refine (count_ok_ref (cap := cap) O HM1.out r2.ctx.in_ r2.mem).mono ?_
      rintro e v3 ⟨rfl, hb⟩
      have k3 := k2.next hb
      have r3 := r2.next hb
      clear k2 r2 hb c0 c1 c2 c3 t0 t1 t2
      have m2 := k3.c2
      have c2 := r3.ctx.c2
      have hdn : ((s.bods.length : Int) == (s.bods.length : Int)) = true := by simp
      generalize s.bods.length = cnt at *
      go_wp2_with fail
      refine (same_eq (cap := cap3) (cap2 := cap) s.bs HLEN.out k3.in_.strs r3.ctx.in_.strs).mono ?_
      rintro e v4 ⟨rfl, hb⟩
      have r4 := r3.next hb
      clear k3 r3 hb m2 c2
      go_wp2_with fail
      refine awake_any.mono ?_
      rintro e v5 ⟨rfl, hb⟩
      have r5 := r4.next hb
      go_wp2
      go_ret
      exact ⟨rfl, r5.ctx.below⟩
  all_goals
    go_wp2_with fail
    refine awake_any.mono ?_
    rintro e w3 ⟨rfl, hb3⟩
    have hc3 := hc2.next hb3
    go_wp2
    go_ret
    exact ⟨rfl, hc3.below⟩
end
end Go.Proofs.Yteleehldcpjndaa
