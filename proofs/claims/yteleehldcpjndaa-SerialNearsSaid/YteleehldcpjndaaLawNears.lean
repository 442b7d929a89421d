/- SerialNears returns true. Condition: the scheme's parts are in memory. -/
import Derived.Test.YteleehldcpjndaaLawTexts
import Derived.Test.YteleehldcpjndaaRefD
import Derived.Test.YteleehldcpjndaaRefL
import Derived.Test.YteleehldcpjndaaRefN
import Derived.Test.YteleehldcpjndaaRefP
namespace Go.Proofs.Yteleehldcpjndaa
open Go Go.RowKit

section
variable {s : Sch}

/-- the serials wanted, when the first i were seen -/
def Sch.nw (s : Sch) (x : Bytes) (i : Nat) : List Bytes := ((s.bods.take i).filter fun T => decide (apartN (s.ser T) x = 1)).map s.ser

theorem nw_no {x : Bytes} {i : Nat} {T : List Nat} (h : s.bods[i]? = some T) (hf : apartN (s.ser T) x ≠ 1) : s.nw x (i + 1) = s.nw x i := by
  obtain ⟨hlt, he⟩ := List.getElem?_eq_some_iff.1 h
  unfold Sch.nw
  rw [List.take_succ_eq_append_getElem hlt, List.filter_append, he]
  simp [hf]

theorem nw_yes {x : Bytes} {i : Nat} {T : List Nat} (h : s.bods[i]? = some T) (hf : apartN (s.ser T) x = 1) : s.nw x (i + 1) = s.nw x i ++ [s.ser T] := by
  obtain ⟨hlt, he⟩ := List.getElem?_eq_some_iff.1 h
  unfold Sch.nw
  rw [List.take_succ_eq_append_getElem hlt, List.filter_append, he]
  simp [hf]

theorem nw_len (s : Sch) (x : Bytes) (i : Nat) : (s.nw x i).length ≤ i := by
  unfold Sch.nw
  rw [List.length_map]
  refine Nat.le_trans (List.length_filter_le _ _) ?_
  rw [List.length_take]; exact Nat.min_le_left _ _

theorem nw_all (s : Sch) (x : Bytes) : s.nw x s.bods.length = (s.nearT x).map s.ser := by
  unfold Sch.nw Sch.nearT
  rw [List.take_length]

variable {w : World} {a : Option Addr} {cap : Nat}

set_option maxRecDepth 100000 in
set_option maxHeartbeats 4000000 in
theorem nears_law (h : s.In w a) (x : ByteArray) (hx : x.size ≤ maxLen) :
    Calls Try.prog 12 #[s.val a cap, .string x] w fun e w' => e = .returned (.bool true) ∧ Below w.heap.size w w' := by
  have hc1 := Ctx.start' (cap := cap) h
  have HX := Lib.hid hx
  unfold maxLen at hx
  obtain ⟨i0, hi0, hz0, hz1, hz2⟩ := info_parts infoStr
  clear h
  unfold Sch.val
  go_enter Try.func12, Try.ntmps12
  go_wp2_with fail
  change Calls _ _ _ (boxW s a cap w) _
  generalize boxW s a cap w = w1 at *
  refine (few_any (cap := cap) hc1.in_).mono ?_
  rintro e w2 ⟨b, rfl, hb2⟩
  have hc2 := hc1.next hb2
  clear hc1 hb2
  have hearly : b = false ∨ (b = true ∧ 100 < x.size) ∨ (b = true ∧ x.size ≤ 100) := by cases b <;> simp; omega
  rcases hearly with rfl | ⟨rfl, h100⟩ | ⟨rfl, h100⟩
  case inr.inr =>
    have c0 := hc2.c0
    have c1 := hc2.c1
    have c2 := hc2.c2
    have c3 := hc2.c3
    go_wp2_with fail
    refine (check_ref (cap := cap) hc2.in_).mono ?_
    rintro e w3 ⟨hb3, hcase⟩
    have hc3 := hc2.next hb3
    clear hc2 hb3 c0 c1 c2 c3
    rcases hcase with ⟨hne, rfl⟩ | ⟨he, m, rfl, hm⟩
    · have hd : ((s.err : Int) != 0) = true := by rw [bne_iff_ne]; omega
      have HB := Lib.hid (hc3.next ((Below.refl _ _).alloc (Nat.le_refl _) (.cells #[nilS, nilS, nilS] 29)))
      clear hne
      go_wp2_with fail
      refine awake_any.mono ?_
      rintro e w4 ⟨rfl, hb4⟩
      have hc4 := HB.out.next hb4
      go_wp2
      go_ret
      exact ⟨rfl, hc4.below⟩
    · obtain ⟨m1, hm1⟩ : ∃ m1, m1 = s.L.toNat + 1 := ⟨_, rfl⟩
      rw [val_m1 hm1]
      have O := Sch.ok_of he
      have HE := Lib.hid he
      have hcap : s.bods.length ≤ 1099511627776 := by have := O.cap; unfold capM at this; omega
      clear hm1 he hm
      have hc4 := hc3.next ((Below.refl w3.heap.size w3).alloc (Nat.le_refl _) (rowsO s m m1))
      clear hc3
      have c0 := hc4.c0
      have c1 := hc4.c1
      have c2 := hc4.c2
      have c3 := hc4.c3
      unfold rowsO at c0 c1 c2 c3
      go_wp2_with fail
      change Calls _ _ _ (w3.alloc (rowsO s m m1)) _
      clear c0 c1 c2 c3
      generalize w3.alloc (rowsO s m m1) = w4 at *
      generalize w3.heap.size = tb
      refine (small_ref (cap := cap) hc4.in_ O.toWf 4000 (by omega) (by omega)).mono ?_
      rintro e w5 ⟨rfl, hb5⟩
      have hc5 := hc4.next hb5
      clear hc4 hb5
      by_cases hsm : s.A.size ^ s.L.toNat ≤ 4000
      case neg =>
        rw [decide_eq_false hsm]
        clear hsm
        go_wp2_with fail
        refine awake_any.mono ?_
        rintro e w6 ⟨rfl, hb6⟩
        have hc6 := hc5.next hb6
        go_wp2
        go_ret
        exact ⟨rfl, hc6.below⟩
      rw [decide_eq_true hsm]
      have HSM := Lib.hid hsm
      clear hsm
      have c0 := hc5.c0
      have c1 := hc5.c1
      have c2 := hc5.c2
      have c3 := hc5.c3
      cases hsyn : s.syn x.data.toList
      · have HSY := Lib.hid hsyn
        clear hsyn
        go_wp2_with fail
        refine (near_no (cap := cap) x HX.out hc5.in_ HE.out HSY.out).mono ?_
        rintro e w6 ⟨rfl, hb6⟩
        have hc6 := hc5.next hb6
        clear hc5 hb6 c0 c1 c2 c3
        have c0 := hc6.c0
        have c1 := hc6.c1
        have c2 := hc6.c2
        have c3 := hc6.c3
        go_wp2_with fail
        refine (syntax_ref (cap := cap) O.toWf hc6.in_ x HX.out).mono ?_
        rintro e w7 ⟨rfl, hb7⟩
        rw [HSY.out]
        have hc7 := hc6.next hb7
        clear hc6 hb7 c0 c1 c2 c3
        go_wp2_with fail
        refine awake_any.mono ?_
        rintro e w8 ⟨rfl, hb8⟩
        have hc8 := hc7.next hb8
        go_wp2
        go_ret
        exact ⟨rfl, hc8.below⟩
      · have HSY := Lib.hid hsyn
        clear hsyn
        go_wp2_with fail
        refine (near_ok (cap := cap) O HE.out hc5.in_ x HSY.out).mono ?_
        rintro e w6 ⟨v, rfl, hb6, al, cl, rfl, hstl⟩
        have hc6 := hc5.next hb6
        clear hc5 hb6 c0 c1 c2 c3
        have c0 := hc6.c0
        have c1 := hc6.c1
        have c2 := hc6.c2
        have c3 := hc6.c3
        go_wp2_with fail
        refine (syntax_ref (cap := cap) O.toWf hc6.in_ x HX.out).mono ?_
        rintro e w7 ⟨rfl, hb7⟩
        rw [HSY.out]
        have hc7 := hc6.next hb7
        have hst7 := hstl.below hb7
        clear hc6 hb7 hstl c0 c1 c2 c3
        have c0 := hc7.c0
        have c1 := hc7.c1
        have c2 := hc7.c2
        have c3 := hc7.c3
        go_wp2_with fail
        refine (all_ref (cap := cap) O hc7.in_ HSM.out).mono ?_
        rintro e w8 ⟨hb8, ao, cp, rfl, hsta⟩
        have hc8 := hc7.next hb8
        have hst8 := hst7.below hb8
        clear hc7 hb8 hst7 c0 c1 c2 c3
        have HXS : Hid (x.size = sz s.L.toNat s.chk) := Lib.hid (by rw [← size_toList]; exact (syn_iff.1 HSY.out).1)
        have hz17 : sz s.L.toNat s.chk ≤ 17 := by have := O.l16; unfold sz; split <;> omega
        have HNL := Lib.hid (nw_len s x.data.toList)
        have HNA := Lib.hid (nw_all s x.data.toList)
        go_wp2_with fail
        go_loopw [10, 11] (fun vo vi wr => ∃ i : Nat, i ≤ s.bods.length ∧ vi = .int .i64 i ∧ Below w8.heap.size w8 wr ∧ Hid (wr.ownsRow w8.heap.size 9 1 vo (s.nw x.data.toList i).length ((s.nw x.data.toList i).map strV)))
          (fun _ vi _ => s.bods.length - (intOf vi).toNat)
        case atStart => exact ⟨0, Nat.zero_le _, rfl, Below.refl _ _, Lib.hid (World.ownsRow_nil _ _ _ _)⟩
        case round =>
          obtain ⟨i, hi, rfl, hbel, hrow⟩ := hrel
          obtain ⟨wz, rfl⟩ : ∃ wz : World, wz = wr := ⟨_, rfl⟩
          by_cases hlt : i < s.bods.length
          · obtain ⟨bb, off, ha, hcell⟩ := (hsta.below hbel) (by rw [List.length_map]; omega)
            have hce := hcell.out i (by rw [List.length_map]; exact hlt)
            have hT : s.bods[i]? = some s.bods[i] := List.getElem?_eq_getElem hlt
            obtain ⟨T, hTe⟩ : ∃ T, T = s.bods[i] := ⟨_, rfl⟩
            rw [← hTe] at hT
            have hgd : (s.bods.map fun T => mkB (s.ser T)).getD i ⟨#[]⟩ = mkB (s.ser T) := by
              rw [List.getD_eq_getElem?_getD, List.getElem?_map, hT]; rfl
            rw [hgd] at hce
            have hTm : T ∈ s.bods := List.mem_of_getElem? hT
            have hsl : (mkB (s.ser T)).size = sz s.L.toNat s.chk := by rw [← size_toList, mkB_data, ser_len O hTm]
            have HT := Lib.hid hT
            obtain ⟨st, hst2⟩ : ∃ st, st = mkB (s.ser T) := ⟨_, rfl⟩
            rw [← hst2] at hce hsl
            have HSD : Hid (st.data.toList = s.ser T) := Lib.hid (by rw [hst2, mkB_data])
            have hxs : st.size ≤ x.size := by rw [hsl, HXS.out]; exact Nat.le_refl _
            have hnl := HNL.out i
            have HBG : Hid (bb < w8.heap.size) := Lib.hid (by
              obtain ⟨b3, o3, ha3, hc3'⟩ := hsta (by rw [List.length_map]; omega)
              have h5 := World.block_lt_of_cell? w8 _ (hc3'.out i (by rw [List.length_map]; exact hlt))
              rw [ha] at ha3
              injection ha3 with ha4
              injection ha4 with ha5
              rw [ha5]; exact h5)
            clear hT hTe hgd hTm hst2 hsl hcell
            subst ha
            go_wp2_with fail
            refine (apart_ref st x _ hxs HX.out).mono ?_
            rintro e w9 ⟨rfl, hb9⟩
            rw [HSD.out]
            have hce2 := (hb9.cell (World.block_lt_of_cell? wz _ hce)).trans hce
            have hbel2 := hbel.trans (hb9.mono hbel.size)
            have HR2 := Lib.hid (kept_ne hrow.out (grown_below hb9 none) (by intro r e; cases e))
            clear hbel hrow hb9 hce
            by_cases hap : apartN (s.ser T) x.data.toList = 1
            · have HN := Lib.hid (nw_yes HT.out hap)
              have hd : ((apartN (s.ser T) x.data.toList : Int) == 1) = true := by rw [hap]; rfl
              clear hap
              generalize apartN (s.ser T) x.data.toList = ap at *
              obtain ⟨X, hX⟩ : ∃ X, X = s.nw x.data.toList i := ⟨_, rfl⟩
              rw [← hX] at HR2 HN hnl
              have hXm : X.length + 1 ≤ maxLen := by unfold maxLen; omega
              have hcs := hbel2.size
              clear hX
              go_wp2_with (at_builtin; refine wpList_append_lies _ rfl _ _ 22 rfl w8.heap.size 9 i0 (.string ByteArray.empty) 1 16 Try.underlying22 hi0 hz0 hz1 hz2 rfl (by decide) _ X.length (X.map strV) rfl (HR2.out.alloc _) ⟨w9.heap.size, 0, none⟩ 1 1 [.string st] rfl rfl (World.news_of_block (cs := #[.string st]) (t := 9) (fr := (0, 0)) (heap_alloc_new w9 _)) (by simp [Value.oneCell']) (by omega) hXm (by omega) (by simp; omega) (w9.heap.size + 1) (by simp) ?_; intro gg cp' w10 hown hgrow hat hlt5; have hown5 := Lib.hid (own_snoc HSD.out hown); have hb5 := (hbel2.alloc hcs (.cells #[.string st] 9)).grown hgrow (by simp; omega) (fun r e => (HR2.out.lt r e).1); clear hown hgrow hat)
              go_roundw
              case rel => exact ⟨i + 1, by omega, by go_num, hb5, by rw [HN.out]; exact hown5⟩
              case measure => simp [intOf]; omega
            · have HN := Lib.hid (nw_no HT.out hap)
              have hd : ((apartN (s.ser T) x.data.toList : Int) == 1) = false := by rw [beq_eq_false_iff_ne]; omega
              clear hap
              generalize apartN (s.ser T) x.data.toList = ap at *
              go_wp2_with fail
              go_roundw
              case rel => exact ⟨i + 1, by omega, by go_num, hbel2, by rw [HN.out]; exact HR2⟩
              case measure => simp [intOf]; omega
          · obtain rfl : i = s.bods.length := by omega
            have h1 := hrow.out
            rw [HNA.out] at h1
            obtain ⟨ao2, co, hv⟩ := owns_shape h1
            subst hv
            rw [strs_map] at h1
            have h2 : ((s.nearT x.data.toList).map s.ser).map mkB = (s.nearT x.data.toList).map fun T => mkB (s.ser T) := by rw [List.map_map]; rfl
            rw [h2] at h1
            have h3 : ((s.nearT x.data.toList).map s.ser).length = ((s.nearT x.data.toList).map fun T => mkB (s.ser T)).length := by rw [List.length_map, List.length_map]
            rw [h3] at h1 ⊢
            have HW2 := Lib.hid (strsAt_own h1)
            have HW1 := Lib.hid (hst8.below hbel)
            have h4 : (s.nearT x.data.toList).length = ((s.nearT x.data.toList).map fun T => mkB (s.ser T)).length := by rw [List.length_map]
            have hnl : ((s.nearT x.data.toList).map fun T => mkB (s.ser T)).length ≤ s.bods.length := by
              rw [← h3, ← HNA.out]; exact HNL.out _
            have hc9 := hc8.next hbel
            rw [h4]
            clear h1 h2 h3 h4 hrow hbel hc8 hst8
            generalize ((s.nearT x.data.toList).map fun T => mkB (s.ser T)) = Y at *
            go_wp2_with fail
            refine (same_eq Y (by unfold maxLen; omega) HW1.out HW2.out).mono ?_
            rintro e w10 ⟨rfl, hb10⟩
            have hc10 := hc9.next hb10
            clear hc9 hb10 HW1 HW2
            go_wp2_with fail
            refine awake_any.mono ?_
            rintro e w11 ⟨rfl, hb11⟩
            have hc11 := hc10.next hb11
            go_wp2
            go_ret
            exact ⟨rfl, hc11.below⟩
  all_goals
    go_wp2_with fail
    refine awake_any.mono ?_
    rintro e w3 ⟨rfl, hb3⟩
    have hc3 := hc2.next hb3
    go_wp2
    go_ret
    exact ⟨rfl, hc3.below⟩
end
end Go.Proofs.Yteleehldcpjndaa
