/- SerialParts returns true. Condition: the scheme's parts are in memory. -/
import Derived.Test.YteleehldcpjndaaLawOpen
namespace Go.Proofs.Yteleehldcpjndaa
open Go Go.RowKit

/-- a mask with another byte at a place -/
def partM (mask A : ByteArray) (i c : Nat) : ByteArray := mask.extract 0 i ++ A.extract c (c + 1) ++ mask.extract (i + 1) mask.size

theorem partM_list {mask A : ByteArray} {i c : Nat} (hi : i < mask.size) (hc : c < A.size) : (partM mask A i c).data.toList = mask.data.toList.set i (A.data.toList.getD c 0) := by
  unfold partM
  have e2 : (mask.extract (i + 1) mask.size).data.toList = mask.data.toList.drop (i + 1) := by
    rw [ByteArray.data_extract, Array.toList_extract, List.extract_eq_take_drop, List.take_of_length_le (by rw [List.length_drop, size_toList]; omega)]
  have e1 : (mask.extract 0 i).data.toList = mask.data.toList.take i := by
    rw [ByteArray.data_extract, Array.toList_extract, List.extract_eq_take_drop]; simp
  rw [ByteArray.data_append, Array.toList_append, ByteArray.data_append, Array.toList_append, e1, e2, extract_one A c hc, List.set_eq_take_append_cons_drop, if_pos (by rw [size_toList]; exact hi)]
  simp

theorem partM_size {mask A : ByteArray} {i c : Nat} (hi : i < mask.size) (hc : c < A.size) : (partM mask A i c).size = mask.size := by
  rw [← size_toList, partM_list hi hc, List.length_set, size_toList]

theorem fits_set {m x : Bytes} {i : Nat} {b : UInt8} (hi : i < m.length) (h63 : m.getD i 0 = 63) (hb : b ≠ 63) : fits (m.set i b) x = true ↔ fits m x = true ∧ b = x.getD i 0 := by
  rw [fits_iff, fits_iff, List.length_set]
  have hset : ∀ j, (m.set i b).getD j 0 = if i = j then b else m.getD j 0 := by
    intro j
    rw [List.getD_eq_getElem?_getD, List.getElem?_set, List.getD_eq_getElem?_getD]
    by_cases hij : i = j
    · subst hij; simp [hi]
    · simp [hij]
  constructor
  · intro h
    refine ⟨fun j hj => ?_, ?_⟩
    · have := h j hj
      rw [hset] at this
      by_cases hij : i = j
      · subst hij; exact .inl h63
      · rwa [if_neg hij] at this
    · have := h i hi
      rw [hset, if_pos rfl] at this
      exact this.resolve_left hb
  · rintro ⟨h1, h2⟩ j hj
    rw [hset]
    by_cases hij : i = j
    · subst hij; rw [if_pos rfl]; exact .inr h2
    · rw [if_neg hij]; exact h1 j hj

theorem count_lt_succ {α : Type} (p : α → Bool) (f : α → Nat) (c : Nat) : ∀ l : List α, (l.filter fun x => p x && decide (f x < c)).length + (l.filter fun x => p x && decide (f x = c)).length = (l.filter fun x => p x && decide (f x < c + 1)).length
  | [] => rfl
  | x :: l => by
    have ih := count_lt_succ p f c l
    simp only [List.filter_cons]
    cases p x
    · simpa using ih
    · by_cases h1 : f x < c
      · have h2 : ¬ f x = c := by omega
        have h3 : f x < c + 1 := by omega
        simp [h1, h2, h3] at ih ⊢
        omega
      · by_cases h2 : f x = c
        · have h3 : f x < c + 1 := by omega
          simp [h2] at ih ⊢
          omega
        · have h3 : ¬ f x < c + 1 := by omega
          simp [h1, h2, h3] at ih ⊢
          omega

section
variable {w : World} {s : Sch} {a : Option Addr} {cap : Nat}

/-- those of a list that match a mask, with one of the first c letters at a place -/
def Sch.upto (s : Sch) (mask : ByteArray) (i : Nat) (l : List (List Nat)) (c : Nat) : Nat := (l.filter fun T => fitsM s.A mask s.L.toNat s.chk T && decide (idx s.A.data.toList ((s.ser T).getD i 0) < c)).length

theorem upto_zero (mask : ByteArray) (i : Nat) (l : List (List Nat)) : s.upto mask i l 0 = 0 := by
  unfold Sch.upto
  simp

theorem upto_le (mask : ByteArray) (i : Nat) (l : List (List Nat)) (c : Nat) : s.upto mask i l c ≤ l.length := List.length_filter_le _ _

theorem ser_in (O : s.Ok) {T : List Nat} (h : T ∈ s.bods) {i : Nat} (hi : i < sz s.L.toNat s.chk) : s.A.data.toList.contains ((s.ser T).getD i 0) = true := by
  have h1 := ser_of O h
  have h2 : i < (s.ser T).length := by rw [ser_len O h]; exact hi
  rw [List.getD_eq_getElem?_getD, List.getElem?_eq_getElem h2]
  exact (List.all_eq_true.1 h1) _ (List.getElem_mem h2)

theorem upto_all (O : s.Ok) {mask : ByteArray} {i : Nat} (hi : i < sz s.L.toNat s.chk) {l : List (List Nat)} (hl : ∀ T ∈ l, T ∈ s.bods) : s.upto mask i l s.A.size = (l.filter (fitsM s.A mask s.L.toNat s.chk)).length := by
  unfold Sch.upto
  congr 1
  apply List.filter_congr
  intro T hT
  have := idx_lt (ser_in O (hl T hT) hi)
  rw [size_toList] at this
  rw [decide_eq_true this, Bool.and_true]

theorem upto_succ (O : s.Ok) {mask : ByteArray} (hm : mask.size = sz s.L.toNat s.chk) {i c : Nat} (hi : i < mask.size) (h63 : mask.data.toList.getD i 0 = 63) (hc : c < s.A.size) {l : List (List Nat)} (hl : ∀ T ∈ l, T ∈ s.bods) :
    s.upto mask i l c + (l.filter (fitsM s.A (partM mask s.A i c) s.L.toNat s.chk)).length = s.upto mask i l (c + 1) := by
  unfold Sch.upto
  rw [← count_lt_succ]
  congr 2
  apply List.filter_congr
  intro T hT
  have hB := hl T hT
  have hin := ser_in O hB (i := i) (by omega)
  have hcl : c < s.A.data.toList.length := by rw [size_toList]; exact hc
  have hne : s.A.data.toList.getD c 0 ≠ 63 := by
    rw [List.getD_eq_getElem?_getD, List.getElem?_eq_getElem hcl]
    exact alpha_no_mark O (List.getElem_mem hcl)
  rw [fits_ser O hB (by rw [partM_size hi hc, hm]), fits_ser O hB hm, partM_list hi hc, Bool.eq_iff_iff, fits_set (by rw [size_toList]; exact hi) h63 hne, Bool.and_eq_true, decide_eq_true_eq]
  refine and_congr_right fun _ => ?_
  constructor
  · intro h
    rw [← h]
    unfold idx
    rw [alpha_index O.alpha hc]; rfl
  · intro h
    rw [← h]
    exact idx_get hin

theorem okM_part {mask : ByteArray} (h : s.okM mask = true) {i c : Nat} (hi : i < mask.size) (hc : c < s.A.size) : s.okM (partM mask s.A i c) = true := by
  unfold Sch.okM at *
  rw [Bool.and_eq_true, decide_eq_true_eq] at *
  refine ⟨by rw [partM_size hi hc]; exact h.1, ?_⟩
  rw [partM_list hi hc]
  unfold ofB at *
  rw [List.all_eq_true] at *
  intro d hd
  rcases List.mem_or_eq_of_mem_set hd with h1 | h1
  · exact h.2 d h1
  · rw [h1]
    have := getD_mem (A := s.A.data.toList) (v := c) (by rw [size_toList]; exact hc)
    simp at this ⊢
    exact .inl this

set_option maxRecDepth 100000 in
set_option maxHeartbeats 4000000 in
theorem parts_law (h : s.In w a) (mask : ByteArray) (hmask : mask.size ≤ maxLen) (at_ n : Int) :
    Calls Try.prog 8 #[s.val a cap, .string mask, .int .i64 at_, .int .i64 n] w fun e w' => e = .returned (.bool true) ∧ Below w.heap.size w w' := by
  have hc1 := Ctx.start' (cap := cap) h
  have HM := Lib.hid hmask
  unfold maxLen at hmask
  clear h
  unfold Sch.val
  go_enter Try.func8, Try.ntmps8
  go_wp2_with fail
  change Calls _ _ _ (boxW s a cap w) _
  generalize boxW s a cap w = w1 at *
  refine (few_any (cap := cap) hc1.in_).mono ?_
  rintro e w2 ⟨b, rfl, hb2⟩
  have hc2 := hc1.next hb2
  clear hc1 hb2
  have hearly : b = false ∨ 100 < mask.size ∨ (b = true ∧ mask.size ≤ 100) := by cases b <;> simp; omega
  rcases hearly with rfl | h100 | ⟨rfl, h100⟩
  · go_wp2_with fail
    refine awake_any.mono ?_
    rintro e w3 ⟨rfl, hb3⟩
    have hc3 := hc2.next hb3
    go_wp2
    go_ret
    exact ⟨rfl, hc3.below⟩
  · cases b
    all_goals
      go_wp2_with fail
      refine awake_any.mono ?_
      rintro e w3 ⟨rfl, hb3⟩
      have hc3 := hc2.next hb3
      go_wp2
      go_ret
      exact ⟨rfl, hc3.below⟩
  · have c0 := hc2.c0
    have c1 := hc2.c1
    have c2 := hc2.c2
    have c3 := hc2.c3
    by_cases hgood : s.err = 0 ∧ s.okM mask = true
    · obtain ⟨he, hok⟩ := hgood
      have O := Sch.ok_of he
      have hmsz : mask.size = sz s.L.toNat s.chk := by have := hok; unfold Sch.okM at this; simp only [Bool.and_eq_true, decide_eq_true_eq] at this; exact this.1
      have HE := Lib.hid he
      have HOK := Lib.hid hok
      have HMSZ := Lib.hid hmsz
      clear he hok hmsz
      go_wp2_with fail
      refine (matches_ok (cap := cap) mask HM.out hc2.in_ HE.out HOK.out).mono ?_
      rintro e w3 ⟨rfl, hb3⟩
      have hc3 := hc2.next hb3
      clear hc2 hb3 c0 c1 c2 c3
      have c0 := hc3.c0
      have c1 := hc3.c1
      have c2 := hc3.c2
      have c3 := hc3.c3
      have hcap : s.bods.length ≤ 1099511627776 := by have := O.cap; unfold capM at this; omega
      have hmle : (s.mat mask).length ≤ s.bods.length := s.mat_le mask
      have hcases : at_ < 0 ∨ (0 ≤ at_ ∧ (mask.size : Int) ≤ at_) ∨ (∃ i : Nat, at_ = i ∧ i < mask.size) := by
        by_cases h1 : at_ < 0
        · exact .inl h1
        · by_cases h2 : (mask.size : Int) ≤ at_
          · exact .inr (.inl ⟨by omega, h2⟩)
          · exact .inr (.inr ⟨at_.toNat, by omega, by omega⟩)
      rcases hcases with h1 | ⟨h1, h2⟩ | ⟨i, rfl, hi⟩
      · go_wp2_with fail
        refine awake_any.mono ?_
        rintro e w4 ⟨rfl, hb4⟩
        have hc4 := hc3.next hb4
        go_wp2
        go_ret
        exact ⟨rfl, hc4.below⟩
      · go_wp2_with fail
        refine awake_any.mono ?_
        rintro e w4 ⟨rfl, hb4⟩
        have hc4 := hc3.next hb4
        go_wp2
        go_ret
        exact ⟨rfl, hc4.below⟩
      · by_cases h63 : mask[i] = 63
        · have hd63 : ((mask[i].toNat : Int) != 63) = false := by rw [int_ne_63, bne_eq_false_iff_eq]; exact h63
          have hg63 : mask.data.toList.getD i 0 = 63 := by have := bt_get hi; rw [h63] at this; exact this.symm
          have HG := Lib.hid hg63
          clear h63 hg63
          have hn : n < 0 ∨ (0 ≤ n ∧ (s.bods.length : Int) < n) ∨ (∃ n' : Nat, n = n' ∧ n' ≤ s.bods.length) := by
            by_cases h1 : n < 0
            · exact .inl h1
            · by_cases h2 : (s.bods.length : Int) < n
              · exact .inr (.inl ⟨by omega, h2⟩)
              · exact .inr (.inr ⟨n.toNat, by omega, by omega⟩)
          have hmk : ∃ (f : Nat) (R : ByteArray → Nat) (g : Nat → Nat), (f = 0 ∨ f = 3) ∧ (f = 0 ↔ 0 ≤ n ∧ n ≤ (s.bods.length : Int)) ∧ g 0 = 0 ∧ (∀ c, c < s.A.size → g c + R (partM mask s.A i c) = g (c + 1)) ∧ g s.A.size = R mask ∧ (∀ c, g c ≤ s.bods.length) ∧
              (∀ (w2 : World) (p : ByteArray), s.In w2 a → p.size ≤ maxLen → s.okM p = true → Calls Try.prog 36 #[s.val a cap, .string p, .int .i64 n] w2 fun e w' => e = .returned (.tuple #[.int .i64 (R p : Nat), .int .i64 (f : Nat)]) ∧ Below w2.heap.size w2 w') := by
            rcases hn with h1 | ⟨h1, h2⟩ | ⟨n', rfl, h1⟩
            · exact ⟨3, fun _ => 0, fun _ => 0, .inr rfl, by omega, rfl, fun _ _ => rfl, rfl, fun _ => Nat.zero_le _, fun w2 p h2 h3 h4 => below_range p n h3 h2 HE.out h4 (.inl h1)⟩
            · exact ⟨3, fun _ => 0, fun _ => 0, .inr rfl, by omega, rfl, fun _ _ => rfl, rfl, fun _ => Nat.zero_le _, fun w2 p h3 h4 h5 => below_range p n h4 h3 HE.out h5 (.inr h2)⟩
            · have hl : ∀ T ∈ s.bods.take n', T ∈ s.bods := fun T hT => List.mem_of_mem_take hT
              refine ⟨0, fun p => s.rank p n', s.upto mask i (s.bods.take n'), .inl rfl, by omega, upto_zero _ _ _, ?_, ?_, ?_, fun w2 p h2 h3 h4 => below_in p n' h3 h2 HE.out h4 h1⟩
              · intro c hc
                exact upto_succ O HMSZ.out hi HG.out hc hl
              · exact upto_all O (by rw [← HMSZ.out]; exact hi) hl
              · intro c
                refine Nat.le_trans (upto_le _ _ _ _) ?_
                rw [List.length_take]; omega
          have HGA := Lib.hid (upto_all (mask := mask) O (i := i) (by rw [← HMSZ.out]; exact hi) (l := s.bods) (fun T hT => hT))
          have HGS := Lib.hid (fun (c : Nat) (hc : c < s.A.size) => upto_succ O HMSZ.out hi HG.out hc (l := s.bods) (fun T hT => hT))
          obtain ⟨f, R, g, hf, hfn, hg0, hgs, hga, hgl, hbl⟩ := hmk
          have HBL := Lib.hid hbl
          have HGS2 := Lib.hid hgs
          have HGA2 := Lib.hid hga
          have HGL := Lib.hid hgl
          have HG0 := Lib.hid hg0
          have hRm : R mask ≤ s.bods.length := by rw [← hga]; exact hgl _
          clear hbl hgs hga hgl hn hg0
          go_wp2_with fail
          refine (count_ok (cap := cap) hc3.in_ HE.out).mono ?_
          rintro e w4 ⟨rfl, hb4⟩
          have hc4 := hc3.next hb4
          clear hc3 hb4 c0 c1 c2 c3
          have c0 := hc4.c0
          have c1 := hc4.c1
          have c2 := hc4.c2
          have c3 := hc4.c3
          go_wp2_with fail
          refine (HBL.out _ mask hc4.in_ HM.out HOK.out).mono ?_
          rintro e w5 ⟨rfl, hb5⟩
          have hc5 := hc4.next hb5
          clear hc4 hb5 c0 c1 c2 c3
          have hA36 := O.a36
          have hn3 : (f = 0 ∧ 0 ≤ n ∧ n ≤ (s.bods.length : Int)) ∨ (f = 3 ∧ n < 0) ∨ (f = 3 ∧ 0 ≤ n ∧ (s.bods.length : Int) < n) := by omega
          clear hfn hf
          rcases hn3 with ⟨rfl, n1, n2⟩ | ⟨rfl, n1⟩ | ⟨rfl, n1, n2⟩
          all_goals
            go_wp2_with fail
            go_loopw [15, 16, 17] (fun v1 v2 vc wr => ∃ c : Nat, c ≤ s.A.size ∧ vc = .int .i64 c ∧ v1 = .int .i64 (s.upto mask i s.bods c : Nat) ∧ v2 = .int .i64 (g c : Nat) ∧ Ctx s a cap w w.heap.size wr)
              (fun _ _ vc _ => s.A.size - (intOf vc).toNat)
            case atStart => exact ⟨0, Nat.zero_le _, rfl, by rw [upto_zero]; rfl, by rw [HG0.out]; rfl, hc5⟩
            case round =>
              obtain ⟨c, hc, rfl, rfl, rfl, hcr⟩ := hrel
              clear hc5
              have c0 := hcr.c0
              by_cases hlt : c < s.A.size
              · have x1 : (mask.extract 0 i).size = i := by rw [ByteArray.size_extract]; omega
                have x2 : (s.A.extract c (c + 1)).size = 1 := by rw [ByteArray.size_extract]; omega
                have x3 : (mask.extract (i + 1) mask.size).size = mask.size - (i + 1) := by rw [ByteArray.size_extract]; omega
                have hps : (partM mask s.A i c).size = mask.size := partM_size hi hlt
                have HPS : Hid ((partM mask s.A i c).size ≤ maxLen) := Lib.hid (by rw [hps]; exact HM.out)
                have HPO := Lib.hid (okM_part HOK.out hi hlt)
                have hu1 := upto_le (s := s) mask i s.bods c
                have hu2 := HGL.out c
                have hk1 : (s.mat (partM mask s.A i c)).length ≤ s.bods.length := s.mat_le _
                have hu3 : g c + R (partM mask s.A i c) ≤ s.bods.length := by rw [HGS2.out c hlt]; exact HGL.out _
                clear hps
                go_wp2_with fail
                go_quiet (fail)
                rw [show (mask.extract 0 i ++ s.A.extract c (c + 1) ++ mask.extract (i + 1) mask.size) = partM mask s.A i c from rfl]
                clear x1 x2 x3
                have HS1 : Hid (s.upto mask i s.bods c + (s.mat (partM mask s.A i c)).length = s.upto mask i s.bods (c + 1)) := Lib.hid (HGS.out c hlt)
                have HS2 : Hid (g c + R (partM mask s.A i c) = g (c + 1)) := Lib.hid (HGS2.out c hlt)
                generalize partM mask s.A i c = p at *
                have hc6 := hcr.next (below_drewN wr nq)
                clear hcr c0
                have c0 := hc6.c0
                have c1 := hc6.c1
                have c2 := hc6.c2
                have c3 := hc6.c3
                go_wp2_with fail
                refine (matches_ok (cap := cap) p HPS.out hc6.in_ HE.out HPO.out).mono ?_
                rintro e w7 ⟨rfl, hb7⟩
                have hc7 := hc6.next hb7
                clear hc6 hb7 c0 c1 c2 c3
                have c0 := hc7.c0
                have c1 := hc7.c1
                have c2 := hc7.c2
                have c3 := hc7.c3
                go_wp2_with fail
                refine (HBL.out _ p hc7.in_ HPS.out HPO.out).mono ?_
                rintro e w8 ⟨rfl, hb8⟩
                have hc8 := hc7.next hb8
                clear hc7 hb8 c0 c1 c2 c3
                go_wp2_with fail
                go_roundw
                case rel => exact ⟨c + 1, by omega, by go_num, by rw [← HS1.out, Int.natCast_add], by rw [← HS2.out, Int.natCast_add], hc8⟩
                case measure => simp [intOf]; omega
              · obtain rfl : c = s.A.size := by omega
                have HGA3 : Hid (s.upto mask i s.bods s.A.size = (s.mat mask).length) := HGA
                rw [HGA3.out, HGA2.out]
                go_wp2_with fail
                refine awake_any.mono ?_
                rintro e w8 ⟨rfl, hb8⟩
                have hc8 := hcr.next hb8
                go_wp2
                go_ret
                exact ⟨rfl, hc8.below⟩
        · have hd63 : ((mask[i].toNat : Int) != 63) = true := by rw [int_ne_63, bne_iff_ne]; exact h63
          clear h63
          go_wp2_with fail
          refine awake_any.mono ?_
          rintro e w4 ⟨rfl, hb4⟩
          have hc4 := hc3.next hb4
          go_wp2
          go_ret
          exact ⟨rfl, hc4.below⟩
    · have hbad : s.err ≠ 0 ∨ s.okM mask = false := by
        by_cases he : s.err = 0
        · right
          cases hh : s.okM mask
          · rfl
          · exact absurd ⟨he, hh⟩ hgood
        · exact .inl he
      have hd : (((if s.err = 0 then 4 else s.err : Nat) : Int) != 0) = true := by rw [bne_iff_ne]; split <;> omega
      have HB := Lib.hid hbad
      clear hgood hbad
      go_wp2_with fail
      refine (matches_bad (cap := cap) mask HM.out hc2.in_ HB.out).mono ?_
      rintro e w3 ⟨rfl, hb3⟩
      have hc3 := hc2.next hb3
      clear hc2 hb3 c0 c1 c2 c3
      generalize (if s.err = 0 then 4 else s.err) = er at *
      go_wp2_with fail
      refine awake_any.mono ?_
      rintro e w4 ⟨rfl, hb4⟩
      have hc4 := hc3.next hb4
      go_wp2
      go_ret
      exact ⟨rfl, hc4.below⟩
end
end Go.Proofs.Yteleehldcpjndaa
