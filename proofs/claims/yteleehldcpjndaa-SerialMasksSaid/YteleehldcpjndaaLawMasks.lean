/- SerialMasks returns true. Condition: the scheme's parts are in memory. -/
import Derived.Test.YteleehldcpjndaaLawTexts
import Derived.Test.YteleehldcpjndaaRefD
import Derived.Test.YteleehldcpjndaaRefM
import Derived.Test.YteleehldcpjndaaRefN
import Derived.Test.YteleehldcpjndaaLawC
namespace Go.Proofs.Yteleehldcpjndaa
open Go Go.RowKit

theorem filter_at {α : Type} (p : α → Bool) : ∀ (l : List α) (i : Nat) (x : α), l[i]? = some x → p x = true → (l.filter p)[((l.take i).filter p).length]? = some x
  | [], _, _, h, _ => by simp at h
  | a :: l, 0, x, h, hp => by
    have : a = x := by simpa using h
    subst this
    simp [hp]
  | a :: l, i + 1, x, h, hp => by
    have h1 := filter_at p l i x (by simpa using h) hp
    rw [List.take_succ_cons, List.filter_cons, List.filter_cons]
    split
    · rw [List.length_cons, List.getElem?_cons_succ]; exact h1
    · exact h1

section
variable {s : Sch}

/-- what Match returns -/
def Sch.mone (s : Sch) (mask : ByteArray) (k : Int) : ByteArray := if 0 ≤ k ∧ k < ((s.mat mask).length : Int) then mkB (s.ser ((s.mat mask).getD k.toNat [])) else ⟨#[]⟩
def Sch.merr (s : Sch) (mask : ByteArray) (k : Int) : Nat := if 0 ≤ k ∧ k < ((s.mat mask).length : Int) then 0 else 3
/-- what Below returns -/
def Sch.bel (s : Sch) (mask : ByteArray) (n : Int) : Nat := if 0 ≤ n ∧ n ≤ (s.bods.length : Int) then s.rank mask n.toNat else 0
def Sch.berr (s : Sch) (n : Int) : Nat := if 0 ≤ n ∧ n ≤ (s.bods.length : Int) then 0 else 3
/-- the string wanted, when the first i serials were seen -/
def Sch.wanti (s : Sch) (mask : ByteArray) (k : Int) (i : Nat) : ByteArray := if 0 ≤ k ∧ k < (s.rank mask i : Int) then mkB (s.ser ((s.mat mask).getD k.toNat [])) else ⟨#[]⟩

theorem rank_no {mask : ByteArray} {i : Nat} {T : List Nat} (h : s.bods[i]? = some T) (hf : fitsM s.A mask s.L.toNat s.chk T = false) : s.rank mask (i + 1) = s.rank mask i := by
  obtain ⟨hlt, he⟩ := List.getElem?_eq_some_iff.1 h
  unfold Sch.rank
  rw [List.take_succ_eq_append_getElem hlt, List.filter_append, he]
  simp [hf]

theorem rank_yes {mask : ByteArray} {i : Nat} {T : List Nat} (h : s.bods[i]? = some T) (hf : fitsM s.A mask s.L.toNat s.chk T = true) : s.rank mask (i + 1) = s.rank mask i + 1 := by
  obtain ⟨hlt, he⟩ := List.getElem?_eq_some_iff.1 h
  unfold Sch.rank
  rw [List.take_succ_eq_append_getElem hlt, List.filter_append, he]
  simp [hf]

theorem rank_le (s : Sch) (mask : ByteArray) (i : Nat) : s.rank mask i ≤ i := by
  unfold Sch.rank
  refine Nat.le_trans (List.length_filter_le _ _) ?_
  rw [List.length_take]; exact Nat.min_le_left _ _

theorem wanti_zero (mask : ByteArray) (k : Int) : s.wanti mask k 0 = ⟨#[]⟩ := by
  unfold Sch.wanti
  rw [if_neg]
  have : s.rank mask 0 = 0 := rfl
  rw [this]; omega

theorem wanti_no {mask : ByteArray} {k : Int} {i : Nat} {T : List Nat} (h : s.bods[i]? = some T) (hf : fitsM s.A mask s.L.toNat s.chk T = false) : s.wanti mask k (i + 1) = s.wanti mask k i := by
  unfold Sch.wanti
  rw [rank_no h hf]

theorem wanti_hit {mask : ByteArray} {k : Int} {i : Nat} {T : List Nat} (h : s.bods[i]? = some T) (hf : fitsM s.A mask s.L.toNat s.chk T = true) (hk : (s.rank mask i : Int) = k) : s.wanti mask k (i + 1) = mkB (s.ser T) := by
  unfold Sch.wanti
  rw [rank_yes h hf, if_pos (by omega)]
  have h1 : (s.mat mask)[s.rank mask i]? = some T := filter_at _ s.bods i T h hf
  have h2 : k.toNat = s.rank mask i := by omega
  rw [h2, List.getD_eq_getElem?_getD, h1]; rfl

theorem wanti_miss {mask : ByteArray} {k : Int} {i : Nat} {T : List Nat} (h : s.bods[i]? = some T) (hf : fitsM s.A mask s.L.toNat s.chk T = true) (hk : (s.rank mask i : Int) ≠ k) : s.wanti mask k (i + 1) = s.wanti mask k i := by
  unfold Sch.wanti
  rw [rank_yes h hf]
  by_cases hc : 0 ≤ k ∧ k < (s.rank mask i : Int)
  · rw [if_pos hc, if_pos (by omega)]
  · rw [if_neg hc, if_neg (by omega)]

theorem wanti_all (mask : ByteArray) (k : Int) : s.wanti mask k s.bods.length = s.mone mask k := by
  unfold Sch.wanti Sch.mone
  rw [rank_all]

variable {w : World} {a : Option Addr} {cap : Nat}

theorem match_gen (mask : ByteArray) (k : Int) (hx : mask.size ≤ maxLen) (h : s.In w a) (he : s.err = 0) (hs : s.okM mask = true) :
    Calls Try.prog 37 #[s.val a cap, .string mask, .int .i64 k] w fun e w' => e = .returned (.tuple #[.string (s.mone mask k), .int .i64 (s.merr mask k : Nat)]) ∧ Below w.heap.size w w' := by
  by_cases hc : 0 ≤ k ∧ k < ((s.mat mask).length : Int)
  · obtain ⟨k', rfl⟩ := Int.eq_ofNat_of_zero_le hc.1
    have hk : k' < (s.mat mask).length := by omega
    have h1 := match_ok (cap := cap) mask k' _ hx h he hs (List.getElem?_eq_getElem hk)
    unfold Sch.mone Sch.merr
    rw [if_pos hc, if_pos hc, Int.toNat_natCast, List.getD_eq_getElem?_getD, List.getElem?_eq_getElem hk]
    exact h1
  · have h1 := match_range (cap := cap) mask k hx h he hs (by omega)
    unfold Sch.mone Sch.merr
    rw [if_neg hc, if_neg hc]
    exact h1

theorem below_gen (mask : ByteArray) (n : Int) (hx : mask.size ≤ maxLen) (h : s.In w a) (he : s.err = 0) (hs : s.okM mask = true) :
    Calls Try.prog 36 #[s.val a cap, .string mask, .int .i64 n] w fun e w' => e = .returned (.tuple #[.int .i64 (s.bel mask n : Nat), .int .i64 (s.berr n : Nat)]) ∧ Below w.heap.size w w' := by
  by_cases hc : 0 ≤ n ∧ n ≤ (s.bods.length : Int)
  · obtain ⟨n', rfl⟩ := Int.eq_ofNat_of_zero_le hc.1
    have h1 := below_in (cap := cap) mask n' hx h he hs (by omega)
    unfold Sch.bel Sch.berr
    rw [if_pos hc, if_pos hc, Int.toNat_natCast]
    exact h1
  · have h1 := below_range (cap := cap) mask n hx h he hs (by omega)
    unfold Sch.bel Sch.berr
    rw [if_neg hc, if_neg hc]
    exact h1

set_option maxRecDepth 100000 in
set_option maxHeartbeats 4000000 in
theorem masks_law (h : s.In w a) (x : ByteArray) (hx : x.size ≤ maxLen) (k n : Int) :
    Calls Try.prog 10 #[s.val a cap, .string x, .int .i64 k, .int .i64 n] w fun e w' => e = .returned (.bool true) ∧ Below w.heap.size w w' := by
  have hc1 := Ctx.start' (cap := cap) h
  have HX := Lib.hid hx
  unfold maxLen at hx
  clear h
  unfold Sch.val
  go_enter Try.func10, Try.ntmps10
  go_wp2_with fail
  change Calls _ _ _ (boxW s a cap w) _
  generalize boxW s a cap w = w1 at *
  refine (few_any (cap := cap) hc1.in_).mono ?_
  rintro e w2 ⟨b, rfl, hb2⟩
  have hc2 := hc1.next hb2
  clear hc1 hb2
  have hearly : b = false ∨ (b = true ∧ 100 < x.size) ∨ (b = true ∧ x.size ≤ 100) := by cases b <;> simp; omega
  rcases hearly with rfl | ⟨rfl, h100⟩ | ⟨rfl, h100⟩
  case inr.inr =>
    have c0 := hc2.c0
    have c1 := hc2.c1
    have c2 := hc2.c2
    have c3 := hc2.c3
    go_wp2_with fail
    refine (check_ref (cap := cap) hc2.in_).mono ?_
    rintro e w3 ⟨hb3, hcase⟩
    have hc3 := hc2.next hb3
    clear hc2 hb3 c0 c1 c2 c3
    rcases hcase with ⟨hne, rfl⟩ | ⟨he, m, rfl, hm⟩
    · have hd : ((s.err : Int) != 0) = true := by rw [bne_iff_ne]; omega
      have HB := Lib.hid (hc3.next ((Below.refl _ _).alloc (Nat.le_refl _) (.cells #[nilS, nilS, nilS] 29)))
      clear hne
      go_wp2_with fail
      refine awake_any.mono ?_
      rintro e w4 ⟨rfl, hb4⟩
      have hc4 := HB.out.next hb4
      go_wp2
      go_ret
      exact ⟨rfl, hc4.below⟩
    · obtain ⟨m1, hm1⟩ : ∃ m1, m1 = s.L.toNat + 1 := ⟨_, rfl⟩
      rw [val_m1 hm1]
      have O := Sch.ok_of he
      have HE := Lib.hid he
      have hcap : s.bods.length ≤ 1099511627776 := by have := O.cap; unfold capM at this; omega
      clear hm1 he hm
      have hc4 := hc3.next ((Below.refl w3.heap.size w3).alloc (Nat.le_refl _) (rowsO s m m1))
      clear hc3
      have c0 := hc4.c0
      have c1 := hc4.c1
      have c2 := hc4.c2
      have c3 := hc4.c3
      unfold rowsO at c0 c1 c2 c3
      go_wp2_with fail
      change Calls _ _ _ (w3.alloc (rowsO s m m1)) _
      clear c0 c1 c2 c3
      generalize w3.alloc (rowsO s m m1) = w4 at *
      generalize w3.heap.size = tb
      refine (small_ref (cap := cap) hc4.in_ O.toWf 4000 (by omega) (by omega)).mono ?_
      rintro e w5 ⟨rfl, hb5⟩
      have hc5 := hc4.next hb5
      clear hc4 hb5
      by_cases hsm : s.A.size ^ s.L.toNat ≤ 4000
      case neg =>
        rw [decide_eq_false hsm]
        clear hsm
        go_wp2_with fail
        refine awake_any.mono ?_
        rintro e w6 ⟨rfl, hb6⟩
        have hc6 := hc5.next hb6
        go_wp2
        go_ret
        exact ⟨rfl, hc6.below⟩
      rw [decide_eq_true hsm]
      have HSM := Lib.hid hsm
      clear hsm
      have c0 := hc5.c0
      have c1 := hc5.c1
      have c2 := hc5.c2
      have c3 := hc5.c3
      cases hok : s.okM x
      · have HOK := Lib.hid hok
        clear hok
        go_wp2_with fail
        refine (matches_bad (cap := cap) x HX.out hc5.in_ (.inr HOK.out)).mono ?_
        rintro e w6 ⟨rfl, hb6⟩
        rw [if_pos HE.out]
        have hc6 := hc5.next hb6
        clear hc5 hb6 c0 c1 c2 c3
        have c0 := hc6.c0
        have c1 := hc6.c1
        have c2 := hc6.c2
        have c3 := hc6.c3
        go_wp2_with fail
        refine (match_bad (cap := cap) x k HX.out hc6.in_ (.inr HOK.out)).mono ?_
        rintro e w7 ⟨rfl, hb7⟩
        rw [if_pos HE.out]
        have hc7 := hc6.next hb7
        clear hc6 hb7 c0 c1 c2 c3
        have c0 := hc7.c0
        have c1 := hc7.c1
        have c2 := hc7.c2
        have c3 := hc7.c3
        go_wp2_with fail
        refine (below_bad (cap := cap) x n HX.out hc7.in_ (.inr HOK.out)).mono ?_
        rintro e w8 ⟨rfl, hb8⟩
        rw [if_pos HE.out]
        have hc8 := hc7.next hb8
        clear hc7 hb8 c0 c1 c2 c3
        have c0 := hc8.c0
        have c1 := hc8.c1
        have c2 := hc8.c2
        have c3 := hc8.c3
        go_wp2_with fail
        refine (mask_ref (cap := cap) O.toWf hc8.in_ x (by omega)).mono ?_
        rintro e w9 ⟨rfl, hb9⟩
        rw [HOK.out]
        have hc9 := hc8.next hb9
        clear hc8 hb9 c0 c1 c2 c3
        go_wp2_with fail
        refine awake_any.mono ?_
        rintro e w10 ⟨rfl, hb10⟩
        have hc10 := hc9.next hb10
        go_wp2
        go_ret
        exact ⟨rfl, hc10.below⟩
      · have HOK := Lib.hid hok
        clear hok
        go_wp2_with fail
        refine (matches_ok (cap := cap) x HX.out hc5.in_ HE.out HOK.out).mono ?_
        rintro e w6 ⟨rfl, hb6⟩
        have hc6 := hc5.next hb6
        clear hc5 hb6 c0 c1 c2 c3
        have c0 := hc6.c0
        have c1 := hc6.c1
        have c2 := hc6.c2
        have c3 := hc6.c3
        go_wp2_with fail
        refine (match_gen (cap := cap) x k HX.out hc6.in_ HE.out HOK.out).mono ?_
        rintro e w7 ⟨rfl, hb7⟩
        have hc7 := hc6.next hb7
        clear hc6 hb7 c0 c1 c2 c3
        have c0 := hc7.c0
        have c1 := hc7.c1
        have c2 := hc7.c2
        have c3 := hc7.c3
        go_wp2_with fail
        refine (below_gen (cap := cap) x n HX.out hc7.in_ HE.out HOK.out).mono ?_
        rintro e w8 ⟨rfl, hb8⟩
        have hc8 := hc7.next hb8
        clear hc7 hb8 c0 c1 c2 c3
        have c0 := hc8.c0
        have c1 := hc8.c1
        have c2 := hc8.c2
        have c3 := hc8.c3
        go_wp2_with fail
        refine (mask_ref (cap := cap) O.toWf hc8.in_ x (by omega)).mono ?_
        rintro e w9 ⟨rfl, hb9⟩
        rw [HOK.out]
        have hc9 := hc8.next hb9
        clear hc8 hb9 c0 c1 c2 c3
        have c0 := hc9.c0
        have c1 := hc9.c1
        have c2 := hc9.c2
        have c3 := hc9.c3
        go_wp2_with fail
        refine (all_ref (cap := cap) O hc9.in_ HSM.out).mono ?_
        rintro e w10 ⟨hb10, ao, cp, rfl, hst⟩
        have hc10 := hc9.next hb10
        clear hc9 hb10 c0 c1 c2 c3
        have HXS : Hid (x.size = sz s.L.toNat s.chk) := Lib.hid (by
          have := HOK.out
          unfold Sch.okM at this
          rw [Bool.and_eq_true, decide_eq_true_eq] at this
          exact this.1)
        have hz17 : sz s.L.toNat s.chk ≤ 17 := by have := O.l16; unfold sz; split <;> omega
        have HW0 := Lib.hid (wanti_zero (s := s) x k)
        have HRK := Lib.hid (rank_le s x)
        obtain ⟨n', hn'⟩ : ∃ n', n' = n.toNat := ⟨_, rfl⟩
        have hna : n ≤ (n' : Int) := by omega
        have hnb : 0 ≤ n → (n' : Int) ≤ n := by omega
        have hnc : n < 0 → n' = 0 := by omega
        have HNT := Lib.hid hn'
        clear hn'
        go_wp2_with fail
        go_loopw [18, 19, 20, 21] (fun vc vl vw vi wr => ∃ (i : Nat) (wt : ByteArray), i ≤ s.bods.length ∧ vi = .int .i64 i ∧ vc = .int .i64 (s.rank x i : Nat) ∧ vl = .int .i64 (s.rank x (min i n') : Nat) ∧ vw = .string wt ∧ Hid (wt = s.wanti x k i) ∧ StrsAt wr ao (s.bods.map fun T => mkB (s.ser T)) ∧ Ctx s a cap w w.heap.size wr)
          (fun _ _ _ vi _ => s.bods.length - (intOf vi).toNat)
        case atStart => exact ⟨0, ⟨#[]⟩, Nat.zero_le _, rfl, rfl, by rw [Nat.zero_min]; rfl, rfl, Lib.hid HW0.out.symm, hst, hc10⟩
        case round =>
          clear hst hc10 HW0
          obtain ⟨i, wt, hi, rfl, rfl, rfl, rfl, HWT, hst, hcr⟩ := hrel
          by_cases hlt : i < s.bods.length
          · obtain ⟨bb, off, ha, hcell⟩ := hst (by rw [List.length_map]; omega)
            have hce := hcell.out i (by rw [List.length_map]; exact hlt)
            have hT : s.bods[i]? = some s.bods[i] := List.getElem?_eq_getElem hlt
            obtain ⟨T, hTe⟩ : ∃ T, T = s.bods[i] := ⟨_, rfl⟩
            rw [← hTe] at hT
            have hgd : (s.bods.map fun T => mkB (s.ser T)).getD i ⟨#[]⟩ = mkB (s.ser T) := by
              rw [List.getD_eq_getElem?_getD, List.getElem?_map, hT]; rfl
            rw [hgd] at hce
            have hTm : T ∈ s.bods := List.mem_of_getElem? hT
            have hsl : (mkB (s.ser T)).size = sz s.L.toNat s.chk := by rw [← size_toList, mkB_data, ser_len O hTm]
            have hfit := fits_ser O hTm HXS.out
            rw [← mkB_data (s.ser T)] at hfit
            have HT := Lib.hid hT
            have HFIT := Lib.hid hfit
            obtain ⟨st, hst2⟩ : ∃ st, st = mkB (s.ser T) := ⟨_, rfl⟩
            rw [← hst2] at hce hsl HFIT
            have HST := Lib.hid hst2
            have hxs : x.size ≤ st.size := by rw [hsl, HXS.out]; exact Nat.le_refl _
            have hstm : st.size ≤ maxLen := by rw [hsl]; unfold maxLen; omega
            have HSTM := Lib.hid hstm
            have hri := HRK.out i
            have hrm := HRK.out (min i n')
            clear hT hTe hgd hTm hfit hst2 hstm hsl
            subst ha
            obtain ⟨wo, rfl⟩ : ∃ wo : World, wo = wr := ⟨_, rfl⟩
            go_wp2_with fail
            refine (refmatches_any x st _ hxs HSTM.out).mono ?_
            rintro e w11 ⟨rfl, hb11⟩
            have hce2 := (hb11.cell (World.block_lt_of_cell? wo _ hce)).trans hce
            have hst3 := hst.below hb11
            have hcr3 := hcr.next hb11
            clear hst hcr hb11 hce hcell
            rw [← HFIT.out]
            cases hf : fitsM s.A x s.L.toNat s.chk T
            · have HR1 := Lib.hid (rank_no HT.out hf)
              have HW1 := Lib.hid (wanti_no (k := k) HT.out hf)
              have HR2 : Hid (s.rank x (min (i + 1) n') = s.rank x (min i n')) := Lib.hid (by
                by_cases hin : i < n'
                · rw [Nat.min_eq_left (by omega), Nat.min_eq_left (by omega)]; exact HR1.out
                · rw [Nat.min_eq_right (by omega), Nat.min_eq_right (by omega)])
              clear hf
              go_wp2_with fail
              go_roundw
              case rel => exact ⟨i + 1, wt, by omega, by go_num, by rw [HR1.out], by rw [HR2.out], rfl, by rw [HW1.out]; exact HWT, hst3, hcr3⟩
              case measure => simp [intOf]; omega
            · have HR1 := Lib.hid (rank_yes HT.out hf)
              have hR2 : (i < n' → s.rank x (min (i + 1) n') = s.rank x (min i n') + 1) ∧ (¬ i < n' → s.rank x (min (i + 1) n') = s.rank x (min i n')) := by
                constructor
                · intro hin
                  rw [Nat.min_eq_left (by omega), Nat.min_eq_left (by omega)]; exact HR1.out
                · intro hin
                  rw [Nat.min_eq_right (by omega), Nat.min_eq_right (by omega)]
              have HR2 := Lib.hid hR2
              have hW : ((s.rank x i : Int) = k → s.wanti x k (i + 1) = st) ∧ ((s.rank x i : Int) ≠ k → s.wanti x k (i + 1) = s.wanti x k i) := by
                refine ⟨fun hk => ?_, fun hk => wanti_miss HT.out hf hk⟩
                rw [HST.out]; exact wanti_hit HT.out hf hk
              have HW := Lib.hid hW
              clear hf hR2 hW
              generalize s.rank x i = ri at *
              generalize s.rank x (min i n') = rm at *
              by_cases hk : (ri : Int) = k
              · have HWK := Lib.hid (HW.out.1 hk)
                have hdk : ((ri : Int) == k) = true := by rw [beq_iff_eq]; exact hk
                by_cases hin : i < n'
                · have hin2 : (i : Int) < n := by omega
                  have HRI := Lib.hid (HR2.out.1 hin)
                  clear hk
                  go_wp2_with fail
                  go_roundw
                  case rel => exact ⟨i + 1, st, by omega, by go_num, by rw [HR1.out]; go_num, by rw [HRI.out]; go_num, rfl, Lib.hid HWK.out.symm, hst3, hcr3⟩
                  case measure => simp [intOf]; omega
                · have hin2 : n ≤ (i : Int) := by omega
                  have HRI := Lib.hid (HR2.out.2 hin)
                  clear hk
                  go_wp2_with fail
                  go_roundw
                  case rel => exact ⟨i + 1, st, by omega, by go_num, by rw [HR1.out]; go_num, by rw [HRI.out], rfl, Lib.hid HWK.out.symm, hst3, hcr3⟩
                  case measure => simp [intOf]; omega
              · have HWK := Lib.hid (HW.out.2 hk)
                have hdk : ((ri : Int) == k) = false := by rw [beq_eq_false_iff_ne]; exact hk
                by_cases hin : i < n'
                · have hin2 : (i : Int) < n := by omega
                  have HRI := Lib.hid (HR2.out.1 hin)
                  clear hk
                  go_wp2_with fail
                  go_roundw
                  case rel => exact ⟨i + 1, wt, by omega, by go_num, by rw [HR1.out]; go_num, by rw [HRI.out]; go_num, rfl, by rw [HWK.out]; exact HWT, hst3, hcr3⟩
                  case measure => simp [intOf]; omega
                · have hin2 : n ≤ (i : Int) := by omega
                  have HRI := Lib.hid (HR2.out.2 hin)
                  clear hk
                  go_wp2_with fail
                  go_roundw
                  case rel => exact ⟨i + 1, wt, by omega, by go_num, by rw [HR1.out]; go_num, by rw [HRI.out], rfl, by rw [HWK.out]; exact HWT, hst3, hcr3⟩
                  case measure => simp [intOf]; omega
          · obtain rfl : i = s.bods.length := by omega
            have HRA := rank_all (s := s) x
            have hwm : wt = s.mone x k := by rw [HWT.out, wanti_all]
            subst hwm
            rw [HRA]
            clear HRA HWT HRK
            obtain ⟨cn, hcn⟩ : ∃ cn, cn = (s.mat x).length := ⟨_, rfl⟩
            rw [← hcn]
            have hd0 : ((cn : Int) != (cn : Int)) = false := by simp
            by_cases hk : 0 ≤ k ∧ k < (cn : Int)
            · have h1 : s.merr x k = 0 := by unfold Sch.merr; rw [← hcn, if_pos hk]
              rw [h1]
              obtain ⟨hk1, hk2⟩ := hk
              clear hcn h1
              generalize s.mone x k = on at *
              have hd : (on.toList != on.toList) = false := by simp
              by_cases hn : 0 ≤ n ∧ n ≤ (s.bods.length : Int)
              · have h2 : s.bel x n = s.rank x n' := by unfold Sch.bel; rw [if_pos hn, ← HNT.out]
                have h3 : s.berr n = 0 := by unfold Sch.berr; rw [if_pos hn]
                have h4 : min s.bods.length n' = n' := Nat.min_eq_right (by omega)
                rw [h2, h3, h4]
                obtain ⟨hn1, hn2⟩ := hn
                clear h2 h3 h4
                generalize s.rank x n' = rr at *
                have hd2 : ((rr : Int) == (rr : Int)) = true := by simp
                go_wp2_with fail
                refine awake_any.mono ?_
                rintro e w12 ⟨rfl, hb12⟩
                have hc12 := hcr.next hb12
                go_wp2
                go_ret
                exact ⟨rfl, hc12.below⟩
              · have h2 : s.bel x n = 0 := by unfold Sch.bel; rw [if_neg hn]
                have h3 : s.berr n = 3 := by unfold Sch.berr; rw [if_neg hn]
                rw [h2, h3]
                clear h2 h3
                generalize s.rank x (min s.bods.length n') = rr at *
                rcases (show n < 0 ∨ (0 ≤ n ∧ (s.bods.length : Int) < n) by omega) with hn1 | ⟨hn1, hn2⟩
                all_goals
                  clear hn
                  go_wp2_with fail
                  refine awake_any.mono ?_
                  rintro e w12 ⟨rfl, hb12⟩
                  have hc12 := hcr.next hb12
                  go_wp2
                  go_ret
                  exact ⟨rfl, hc12.below⟩
            · have h1 : s.merr x k = 3 := by unfold Sch.merr; rw [← hcn, if_neg hk]
              have h0 : s.mone x k = ⟨#[]⟩ := by unfold Sch.mone; rw [← hcn, if_neg hk]
              rw [h1, h0]
              have hds : ((⟨#[]⟩ : ByteArray).toList != (⟨#[]⟩ : ByteArray).toList) = false := by simp
              clear hcn h1 h0
              by_cases hn : 0 ≤ n ∧ n ≤ (s.bods.length : Int)
              · have h2 : s.bel x n = s.rank x n' := by unfold Sch.bel; rw [if_pos hn, ← HNT.out]
                have h3 : s.berr n = 0 := by unfold Sch.berr; rw [if_pos hn]
                have h4 : min s.bods.length n' = n' := Nat.min_eq_right (by omega)
                rw [h2, h3, h4]
                obtain ⟨hn1, hn2⟩ := hn
                clear h2 h3 h4
                generalize s.rank x n' = rr at *
                have hd2 : ((rr : Int) == (rr : Int)) = true := by simp
                rcases (show k < 0 ∨ (0 ≤ k ∧ (cn : Int) ≤ k) by omega) with hk1 | ⟨hk1, hk2⟩
                all_goals
                  clear hk
                  go_wp2_with fail
                  refine awake_any.mono ?_
                  rintro e w12 ⟨rfl, hb12⟩
                  have hc12 := hcr.next hb12
                  go_wp2
                  go_ret
                  exact ⟨rfl, hc12.below⟩
              · have h2 : s.bel x n = 0 := by unfold Sch.bel; rw [if_neg hn]
                have h3 : s.berr n = 3 := by unfold Sch.berr; rw [if_neg hn]
                rw [h2, h3]
                clear h2 h3
                generalize s.rank x (min s.bods.length n') = rr at *
                rcases (show k < 0 ∨ (0 ≤ k ∧ (cn : Int) ≤ k) by omega) with hk1 | ⟨hk1, hk2⟩
                all_goals
                  rcases (show n < 0 ∨ (0 ≤ n ∧ (s.bods.length : Int) < n) by omega) with hn1 | ⟨hn1, hn2⟩
                  all_goals
                    clear hk hn
                    go_wp2_with fail
                    refine awake_any.mono ?_
                    rintro e w12 ⟨rfl, hb12⟩
                    have hc12 := hcr.next hb12
                    go_wp2
                    go_ret
                    exact ⟨rfl, hc12.below⟩
  all_goals
    go_wp2_with fail
    refine awake_any.mono ?_
    rintro e w3 ⟨rfl, hb3⟩
    have hc3 := hc2.next hb3
    go_wp2
    go_ret
    exact ⟨rfl, hc3.below⟩
end
end Go.Proofs.Yteleehldcpjndaa
