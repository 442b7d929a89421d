/- SerialOpen returns true. Condition: the scheme's parts are in memory. -/
import Derived.Test.YteleehldcpjndaaLawC
import Derived.Test.YteleehldcpjndaaRefA
namespace Go.Proofs.Yteleehldcpjndaa
open Go Go.RowKit

theorem ofB_more {x A : Bytes} (c : UInt8) (h : ofB x A = true) : ofB x (A ++ [c]) = true := by
  unfold ofB at *
  rw [List.all_eq_true] at *
  intro d hd
  have := h d hd
  simp at this ⊢
  exact .inl this

section
variable {w : World} {s : Sch} {a : Option Addr} {cap : Nat}

theorem okM_any (s : Sch) : s.okM (anyM s.L.toNat s.chk) = true := by
  unfold Sch.okM
  rw [any_size, decide_eq_true rfl, Bool.true_and]
  unfold ofB anyM
  rw [List.all_eq_true]
  intro c hc
  have : c = 63 := (List.mem_replicate.1 (by simpa using hc)).2
  simp [this]

theorem rank_any (O : s.Ok) : s.rank (anyM s.L.toNat s.chk) s.bods.length = s.bods.length := by
  rw [rank_all, s.mat_any O]

theorem alpha_no_mark (O : s.Ok) {c : UInt8} (h : c ∈ s.A.data.toList) : c ≠ 63 := by
  obtain ⟨i, hi, rfl⟩ := List.getElem_of_mem h
  have := O.alpha
  unfold okAlpha at this
  rw [List.all_eq_true] at this
  have h1 := this i (by simpa using hi)
  unfold okAt at h1
  rw [Bool.and_eq_true, List.getD_eq_getElem?_getD, List.getElem?_eq_getElem hi] at h1
  intro h2
  have h3 := h1.1
  rw [show (some (s.A.data.toList[i])).getD 0 = s.A.data.toList[i] from rfl, h2] at h3
  exact absurd h3 (by decide)

/-- a text of the alphabet is matched by itself alone -/
theorem fits_self (O : s.Ok) {x : Bytes} (hof : ofB x s.A.data.toList = true) {y : Bytes} (hl : x.length = y.length) : fits x y = true ↔ x = y := by
  rw [fits_iff]
  constructor
  · intro h
    apply List.ext_getElem hl
    intro i h1 h2
    have h3 := h i h1
    rw [List.getD_eq_getElem?_getD, List.getElem?_eq_getElem h1, List.getD_eq_getElem?_getD, List.getElem?_eq_getElem h2] at h3
    rcases h3 with h4 | h4
    · have h5 : x[i] ∈ s.A.data.toList := by
        have := (List.all_eq_true.1 hof) x[i] (List.getElem_mem h1)
        simpa using this
      exact absurd h4 (alpha_no_mark O h5)
    · exact h4
  · rintro rfl i _
    exact .inr rfl

theorem serr_four {x : Bytes} (h : s.serr x ≠ 4) : x.length = sz s.L.toNat s.chk ∧ ofB x s.A.data.toList = true := by
  unfold Sch.serr serialErr at h
  split at h
  · exact absurd rfl h
  · rename_i h1
    refine ⟨Classical.byContradiction fun hc => h1 (.inl hc), ?_⟩
    cases ho : ofB x s.A.data.toList
    · exact absurd (.inr ho) h1
    · rfl

theorem okM_text {x : ByteArray} (h : s.serr x.data.toList ≠ 4) : s.okM x = true := by
  obtain ⟨h1, h2⟩ := serr_four h
  unfold Sch.okM
  rw [size_toList] at h1
  rw [decide_eq_true h1, Bool.true_and]
  exact ofB_more _ h2

/-- a serial is that of its word -/
theorem ser_of_text (O : s.Ok) {x : Bytes} (h : s.serr x = 0) : s.word x ∈ s.bods ∧ s.ser (s.word x) = x := by
  obtain ⟨h1, h2, h3, h4⟩ := serr_zero h
  have h5 := ofB_take h2 s.L.toNat
  have h6 : ∀ v ∈ s.word x, v < s.A.data.toList.length := idxs_lt h5
  have h7 : txt s.A.data.toList (s.word x) = x.take s.L.toNat := txt_idxs h5
  refine ⟨?_, ?_⟩
  · refine (mem_bodies _ _ O.nonempty _ _).2 ⟨?_, h6, (walk_okay_table O.table _ h6).1 h3⟩
    unfold Sch.word idxs
    rw [List.length_map, List.length_take, h1]
    unfold sz; omega
  · unfold Sch.ser
    rw [h7]; exact h4

theorem mat_text (O : s.Ok) {x : ByteArray} (h : s.serr x.data.toList ≠ 4) {T : List Nat} : T ∈ s.mat x ↔ T ∈ s.bods ∧ x.data.toList = s.ser T := by
  obtain ⟨h1, h2⟩ := serr_four h
  unfold Sch.mat
  rw [List.mem_filter]
  constructor
  · rintro ⟨g1, g2⟩
    rw [fits_ser O g1 (by rw [← size_toList]; exact h1)] at g2
    exact ⟨g1, (fits_self O h2 (by rw [h1, ser_len O g1])).1 g2⟩
  · rintro ⟨g1, g2⟩
    refine ⟨g1, ?_⟩
    rw [fits_ser O g1 (by rw [← size_toList]; exact h1)]
    exact (fits_self O h2 (by rw [h1, ser_len O g1])).2 g2

theorem mat_none (O : s.Ok) {x : ByteArray} (h : s.serr x.data.toList ≠ 4) (h0 : s.serr x.data.toList ≠ 0) : (s.mat x).length = 0 := by
  rw [List.length_eq_zero_iff, List.eq_nil_iff_forall_not_mem]
  intro T hT
  obtain ⟨g1, g2⟩ := (mat_text O h).1 hT
  rw [g2] at h0
  exact h0 (ser_err O g1)

theorem mat_one (O : s.Ok) {x : ByteArray} (h : s.serr x.data.toList = 0) : s.mat x = [s.word x.data.toList] := by
  obtain ⟨g1, g2⟩ := ser_of_text O h
  have hm : s.word x.data.toList ∈ s.mat x := (mat_text O (by rw [h]; decide)).2 ⟨g1, g2.symm⟩
  have hall : ∀ T ∈ s.mat x, T = s.word x.data.toList := by
    intro T hT
    obtain ⟨k1, k2⟩ := (mat_text O (by rw [h]; decide)).1 hT
    rw [k2, ser_word O k1]
  have hs := mat_sorted s x
  revert hm hall hs
  generalize s.mat x = l
  intro hm hall hs
  match l, hm, hall, hs with
  | [], hm, _, _ => simp at hm
  | [b], _, hall, _ => rw [hall b (by simp)]
  | b :: c :: l, _, hall, hs =>
    have := (List.pairwise_cons.1 hs).1 c (by simp)
    rw [hall b (by simp), hall c (by simp), wlt_irrefl] at this
    cases this

/-- the number of a text, and the ranks about it -/
theorem text_rank (O : s.Ok) {x : ByteArray} (h : s.serr x.data.toList = 0) :
    ∃ n, (s.bods.filter fun p => wlt p (s.word x.data.toList)).length = n ∧ n < s.bods.length ∧ s.rank x n = 0 ∧ s.rank x (n + 1) = 1 ∧ (s.mat x).length = 1 := by
  have h1 := mat_one O h
  obtain ⟨n, hn, r0, r1, hlt, _⟩ := mat_rank (mask := x) (k := 0) (T := s.word x.data.toList) O (by rw [h1]; rfl)
  have hnum := num_of O hn
  rw [(ser_of_text O h).2] at hnum
  exact ⟨n, hnum, hlt, r0, r1, by rw [h1]; rfl⟩

/-- Number, whatever the text -/
theorem number_of (x : ByteArray) (hx : x.size ≤ maxLen) (h : s.In w a) (he : s.err = 0) :
    Calls Try.prog 23 #[s.val a cap, .string x] w fun e w' => e = .returned (.tuple #[.int .i64 (if s.serr x.data.toList = 0 then (s.bods.filter fun p => wlt p (s.word x.data.toList)).length else 0 : Nat), .int .i64 (s.serr x.data.toList : Nat)]) ∧ Below w.heap.size w w' := by
  by_cases hs : s.serr x.data.toList = 0
  · rw [if_pos hs, hs]; exact number_ok x hx h he hs
  · rw [if_neg hs]; exact number_no x hx h he hs

set_option maxRecDepth 100000 in
set_option maxHeartbeats 2000000 in
theorem open_law (h : s.In w a) (x : ByteArray) (hx : x.size ≤ maxLen) :
    Calls Try.prog 9 #[s.val a cap, .string x] w fun e w' => e = .returned (.bool true) ∧ Below w.heap.size w w' := by
  have hc1 := Ctx.start' (cap := cap) h
  have HX := Lib.hid hx
  unfold maxLen at hx
  clear h
  unfold Sch.val
  go_enter Try.func9, Try.ntmps9
  go_wp2_with fail
  change Calls _ _ _ (boxW s a cap w) _
  generalize boxW s a cap w = w1 at *
  refine (few_any (cap := cap) hc1.in_).mono ?_
  rintro e w2 ⟨b, rfl, hb2⟩
  have hc2 := hc1.next hb2
  clear hc1 hb2
  have hearly : b = false ∨ 100 < x.size ∨ (b = true ∧ x.size ≤ 100) := by cases b <;> simp; omega
  rcases hearly with rfl | h100 | ⟨rfl, h100⟩
  · go_wp2_with fail
    refine awake_any.mono ?_
    rintro e w3 ⟨rfl, hb3⟩
    have hc3 := hc2.next hb3
    go_wp2
    go_ret
    exact ⟨rfl, hc3.below⟩
  · cases b
    all_goals
      go_wp2_with fail
      refine awake_any.mono ?_
      rintro e w3 ⟨rfl, hb3⟩
      have hc3 := hc2.next hb3
      go_wp2
      go_ret
      exact ⟨rfl, hc3.below⟩
  · have c0 := hc2.c0
    have c1 := hc2.c1
    have c2 := hc2.c2
    have c3 := hc2.c3
    by_cases he : s.err = 0
    · have O := Sch.ok_of he
      have HE := Lib.hid he
      clear he
      have hcap : s.bods.length ≤ 1099511627776 := by have := O.cap; unfold capM at this; omega
      have hl1 := O.l1
      have hl16 := O.l16
      have hsz : sz s.L.toNat s.chk ≤ 17 := by unfold sz; split <;> omega
      have hlong : s.L + (if s.chk then 1 else 0) = (sz s.L.toNat s.chk : Nat) := by unfold sz; cases s.chk <;> simp <;> omega
      have HLONG := Lib.hid hlong
      clear hlong
      go_wp2_with fail
      refine (count_ok (cap := cap) hc2.in_ HE.out).mono ?_
      rintro e w3 ⟨rfl, hb3⟩
      have hc3 := hc2.next hb3
      clear hc2 hb3 c0 c1 c2 c3
      go_wp2_with fail
      go_loopw [7, 8] (fun vo vi wr => ∃ (i : Nat) (o : ByteArray), i ≤ sz s.L.toNat s.chk ∧ vi = .int .i64 i ∧ vo = .string o ∧ o.size = i ∧ Hid (o.data.toList = List.replicate i 63) ∧ Ctx s a cap w w.heap.size wr)
        (fun _ vi _ => sz s.L.toNat s.chk - (intOf vi).toNat)
      case atStart => exact ⟨0, ⟨#[]⟩, Nat.zero_le _, rfl, rfl, rfl, Lib.hid rfl, hc3⟩
      case round =>
        obtain ⟨i, o, hi, rfl, rfl, hos, hod, hcr⟩ := hrel
        clear hc3
        have c0 := hcr.c0
        have c1 := hcr.c1
        have c2 := hcr.c2
        have c3 := hcr.c3
        go_wp2_with fail
        refine (long_any (s := s) (cap := cap) (by omega)).mono ?_
        rintro e w7 ⟨rfl, hb7⟩
        rw [HLONG.out]
        have hc7 := hcr.next hb7
        clear hcr hb7 c0 c1 c2 c3
        by_cases hlt : i < sz s.L.toNat s.chk
        · go_wp2_with fail
          go_roundw
          case rel =>
            refine ⟨i + 1, o ++ ⟨#[63]⟩, by omega, by go_num, rfl, by rw [ByteArray.size_append, hos]; rfl, Lib.hid ?_, hc7⟩
            rw [List.replicate_succ', ← hod.out]; simp
          case measure => simp [intOf]; omega
        · obtain rfl : i = sz s.L.toNat s.chk := by omega
          obtain rfl : o = anyM s.L.toNat s.chk := ba_eq hod.out
          have HA := Lib.hid (okM_any s)
          have HAL : Hid ((anyM s.L.toNat s.chk).size ≤ maxLen) := Lib.hid (by unfold maxLen; omega)
          have HR := Lib.hid (rank_any O)
          have HMA : Hid ((s.mat (anyM s.L.toNat s.chk)).length = s.bods.length) := Lib.hid (by rw [s.mat_any O])
          clear hod hi hlt
          have c0 := hc7.c0
          have c1 := hc7.c1
          have c2 := hc7.c2
          have c3 := hc7.c3
          go_wp2_with fail
          refine (matches_ok (cap := cap) _ HAL.out hc7.in_ HE.out HA.out).mono ?_
          rintro e w8 ⟨rfl, hb8⟩
          rw [HMA.out]
          have hc8 := hc7.next hb8
          clear hc7 hb8 c0 c1 c2 c3
          have c0 := hc8.c0
          have c1 := hc8.c1
          have c2 := hc8.c2
          have c3 := hc8.c3
          go_wp2_with fail
          refine (below_in (cap := cap) _ s.bods.length HAL.out hc8.in_ HE.out HA.out (Nat.le_refl _)).mono ?_
          rintro e w9 ⟨rfl, hb9⟩
          rw [HR.out]
          have hc9 := hc8.next hb9
          clear hc8 hb9 c0 c1 c2 c3
          have c0 := hc9.c0
          have c1 := hc9.c1
          have c2 := hc9.c2
          have c3 := hc9.c3
          generalize anyM s.L.toNat s.chk = om at *
          go_wp2_with fail
          refine (number_of (cap := cap) x HX.out hc9.in_ HE.out).mono ?_
          rintro e w10 ⟨rfl, hb10⟩
          have hc10 := hc9.next hb10
          clear hc9 hb10 c0 c1 c2 c3
          by_cases h4 : s.serr x.data.toList = 4
          · rw [h4]
            go_wp2_with fail
            refine awake_any.mono ?_
            rintro e w11 ⟨rfl, hb11⟩
            have hc11 := hc10.next hb11
            go_wp2
            go_ret
            exact ⟨rfl, hc11.below⟩
          · have hd4 : ((s.serr x.data.toList : Int) == 4) = false := by rw [beq_eq_false_iff_ne]; omega
            have HOK := Lib.hid (okM_text h4)
            have c0 := hc10.c0
            have c1 := hc10.c1
            have c2 := hc10.c2
            have c3 := hc10.c3
            by_cases h0 : s.serr x.data.toList = 0
            · obtain ⟨n, hnum, hlt, r0, r1, hm1⟩ := text_rank O h0
              rw [if_pos h0, h0, hnum]
              have hncap : n < 1099511627777 := Nat.lt_trans hlt O.cap
              have H0 := Lib.hid r0
              have H1 := Lib.hid r1
              have HM1 := Lib.hid hm1
              have HLT := Lib.hid hlt
              clear h0 hnum hlt r0 r1 hm1 hd4 h4
              go_wp2_with fail
              refine (matches_ok (cap := cap) x HX.out hc10.in_ HE.out HOK.out).mono ?_
              rintro e w11 ⟨rfl, hb11⟩
              rw [HM1.out]
              have hc11 := hc10.next hb11
              clear hc10 hb11 c0 c1 c2 c3
              have c0 := hc11.c0
              have c1 := hc11.c1
              have c2 := hc11.c2
              have c3 := hc11.c3
              go_wp2_with fail
              refine (below_in (cap := cap) x n HX.out hc11.in_ HE.out HOK.out (Nat.le_of_lt HLT.out)).mono ?_
              rintro e w12 ⟨rfl, hb12⟩
              rw [H0.out]
              have hc12 := hc11.next hb12
              clear hc11 hb12 c0 c1 c2 c3
              have c0 := hc12.c0
              have c1 := hc12.c1
              have c2 := hc12.c2
              have c3 := hc12.c3
              go_wp2_with fail
              rw [show ((n : Int) + 1) = ((n + 1 : Nat) : Int) by omega]
              refine (below_in (cap := cap) x (n + 1) HX.out hc12.in_ HE.out HOK.out HLT.out).mono ?_
              rintro e w13 ⟨rfl, hb13⟩
              rw [H1.out]
              have hc13 := hc12.next hb13
              clear hc12 hb13 c0 c1 c2 c3
              go_wp2_with fail
              refine awake_any.mono ?_
              rintro e w14 ⟨rfl, hb14⟩
              have hc14 := hc13.next hb14
              go_wp2
              go_ret
              exact ⟨rfl, hc14.below⟩
            · have HM0 := Lib.hid (mat_none O h4 h0)
              rw [if_neg h0]
              have hd0 : ((s.serr x.data.toList : Int) != 0) = true := by rw [bne_iff_ne]; omega
              clear h0 h4
              go_wp2_with fail
              refine (matches_ok (cap := cap) x HX.out hc10.in_ HE.out HOK.out).mono ?_
              rintro e w11 ⟨rfl, hb11⟩
              rw [HM0.out]
              have hc11 := hc10.next hb11
              clear hc10 hb11 c0 c1 c2 c3
              go_wp2_with fail
              refine awake_any.mono ?_
              rintro e w12 ⟨rfl, hb12⟩
              have hc12 := hc11.next hb12
              go_wp2
              go_ret
              exact ⟨rfl, hc12.below⟩
    · have hd : ((s.err : Int) != 0) = true := by rw [bne_iff_ne]; omega
      go_wp2_with fail
      refine (count_err (cap := cap) hc2.in_ he).mono ?_
      rintro e w3 ⟨rfl, hb3⟩
      have hc3 := hc2.next hb3
      clear hc2 hb3 c0 c1 c2 c3 he
      go_wp2_with fail
      refine awake_any.mono ?_
      rintro e w4 ⟨rfl, hb4⟩
      have hc4 := hc3.next hb4
      go_wp2
      go_ret
      exact ⟨rfl, hc4.below⟩
end
end Go.Proofs.Yteleehldcpjndaa
