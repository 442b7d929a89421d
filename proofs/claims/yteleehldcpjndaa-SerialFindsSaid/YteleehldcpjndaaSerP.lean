/- The contracts of package serial's Number, Complete, masked, Matches, Match and Below. Condition: the scheme's parts are in memory. -/
import Derived.Test.YteleehldcpjndaaSerO
namespace Go.Proofs.Yteleehldcpjndaa
open Go Go.RowKit

section
variable {w : World} {s : Sch} {a : Option Addr} {cap : Nat}

/-- the words that match a mask -/
def Sch.mat (s : Sch) (mask : ByteArray) : List (List Nat) := s.bods.filter (fitsM s.A mask s.L.toNat s.chk)
/-- and are lower than a word -/
def Sch.low (s : Sch) (mask : ByteArray) (W : List Nat) : Nat := ((s.mat mask).filter fun p => wlt p W).length

theorem Sch.mat_any (O : s.Ok) : s.mat (anyM s.L.toNat s.chk) = s.bods := filter_any O

theorem Sch.mat_le (s : Sch) (mask : ByteArray) : (s.mat mask).length ≤ s.bods.length := List.length_filter_le _ _

theorem less_at {xb : Nat} (O : s.Ok) (hat : s.At w xb) (mask : ByteArray) (hmask : mask.size = sz s.L.toNat s.chk) (x : ByteArray) (hx : x.size ≤ maxLen) (hLx : s.L.toNat ≤ x.size) (hof : ofB (x.data.toList.take s.L.toNat) s.A.data.toList = true) :
    Calls Try.prog 50 #[.pointer (some ⟨xb, 0, none⟩), .string mask, .string x] w
      fun e w' => e = .returned (.int .i64 (s.low mask (idxs s.A.data.toList (x.data.toList.take s.L.toNat)) : Nat)) ∧ Below w.heap.size w w' := by
  obtain ⟨M, g, h1, h2⟩ := hat.sch
  have hl1 := O.l1
  have hl16 := O.l16
  have ha2 := O.a2
  have hmp := mpaths_eq (A := s.A) (mask := mask) (L := s.L.toNat) (chk := s.chk) O.table
  have hlen : (idxs s.A.data.toList (x.data.toList.take s.L.toNat)).length = s.L.toNat := by
    unfold idxs
    rw [List.length_map, List.length_take, size_toList]; omega
  have hll : lessOf s.A mask s.L.toNat s.tt (sumsB s.L.toNat s.chk mask) s.L.toNat (0, 0, start1 s.A.size s.L.toNat s.chk mask) (idxs s.A.data.toList (x.data.toList.take s.L.toNat)) = s.low mask (idxs s.A.data.toList (x.data.toList.take s.L.toNat)) := by
    unfold lessOf
    rw [less_eq s.A.size (cstep s.A mask s.tt (sumsB s.L.toNat s.chk mask)) (cfin s.A mask s.L.toNat (sumsB s.L.toNat s.chk mask)) _ _ _ _ ?_ hlen ?_]
    · unfold Sch.low Sch.mat Sch.bods
      rw [← hmp]; rfl
    · intro j u hu hj
      apply ways_exact
      refine Nat.lt_of_le_of_lt hu ?_
      show (mpaths s.A mask s.L.toNat s.tt _ _ _).length < _
      rw [hmp]
      exact Nat.lt_of_le_of_lt (List.length_filter_le _ _) O.cap
    · intro v hv
      have := idxs_lt hof v hv
      rwa [size_toList] at this
  rw [← hll]
  exact less_any (by omega) O.a36 (by omega) (by omega) O.ascii hmask h2 (begs_pos _) h1 x hx hLx hof

theorem serial_at {xb : Nat} (O : s.Ok) (hat : s.At w xb) (x : ByteArray) (hx : x.size ≤ maxLen) :
    Calls Try.prog 49 #[.pointer (some ⟨xb, 0, none⟩), .string x] w
      fun e w' => e = .returned (.int .i64 (serialErr s.A.data.toList s.L.toNat s.chk s.tt x.data.toList : Nat)) ∧ Below w.heap.size w w' := by
  obtain ⟨M, g, h1, h2⟩ := hat.sch
  have hl1 := O.l1
  have hl16 := O.l16
  have ha2 := O.a2
  exact serial_any h1 h2 (begs_pos _) (by omega) (by omega) (by omega) O.a36 x hx O.ascii

/-- the error of Number for a valid scheme -/
def Sch.serr (s : Sch) (x : Bytes) : Nat := serialErr s.A.data.toList s.L.toNat s.chk s.tt x

theorem serr_zero {x : Bytes} (h : s.serr x = 0) : x.length = sz s.L.toNat s.chk ∧ ofB x s.A.data.toList = true ∧ (walk s.tt 0 (idxs s.A.data.toList (x.take s.L.toNat))).isSome = true ∧ serialOf s.A.data.toList s.chk (x.take s.L.toNat) = x := by
  unfold Sch.serr serialErr at h
  split at h
  · cases h
  · rename_i h1
    split at h
    · cases h
    · rename_i h2
      split at h
      · cases h
      · rename_i h3
        refine ⟨?_, ?_, by cases hh : (walk s.tt 0 (idxs s.A.data.toList (x.take s.L.toNat))).isSome; exact absurd hh h2; rfl, by simpa using h3⟩
        · exact Classical.byContradiction fun hc => h1 (.inl hc)
        · cases ho : ofB x s.A.data.toList
          · exact absurd (.inr ho) h1
          · rfl

theorem ofB_take {x A : Bytes} (h : ofB x A = true) (n : Nat) : ofB (x.take n) A = true := by
  unfold ofB at *
  rw [List.all_eq_true] at *
  exact fun c hc => h c (List.mem_of_mem_take hc)

/-- the word of a serial -/
def Sch.word (s : Sch) (x : Bytes) : List Nat := idxs s.A.data.toList (x.take s.L.toNat)

set_option maxHeartbeats 400000 in
theorem number_err (x : ByteArray) (h : s.In w a) (he : s.err ≠ 0) :
    Calls Try.prog 23 #[s.val a cap, .string x] w fun e w' => e = .returned (.tuple #[.int .i64 0, .int .i64 (s.err : Nat)]) ∧ Below w.heap.size w w' := by
  have HP := Lib.hid (fun w2 (h2 : s.In w2 a) => prepare_err (cap := cap) h2 he)
  have HI := Lib.hid h
  have hd : ((s.err : Int) != 0) = true := by rw [bne_iff_ne]; omega
  clear h he
  unfold Sch.val at *
  go_enter Try.func23, Try.ntmps23
  go_wp2_with fail
  refine (HP.out _ (HI.out.boxed _)).mono ?_
  rintro e w2 ⟨rfl, hb2⟩
  have hb3 := below_box _ hb2
  clear hb2
  go_wp2
  go_ret2
  exact ⟨rfl, hb3⟩

set_option maxHeartbeats 400000 in
theorem number_no (x : ByteArray) (hx : x.size ≤ maxLen) (h : s.In w a) (he : s.err = 0) (hs : s.serr x.data.toList ≠ 0) :
    Calls Try.prog 23 #[s.val a cap, .string x] w fun e w' => e = .returned (.tuple #[.int .i64 0, .int .i64 (s.serr x.data.toList : Nat)]) ∧ Below w.heap.size w w' := by
  have HP := Lib.hid (fun w2 (h2 : s.In w2 a) => prepare_ok (cap := cap) h2 he)
  have O := Sch.ok_of he
  have HI := Lib.hid h
  have hd : ((s.serr x.data.toList : Int) != 0) = true := by rw [bne_iff_ne]; omega
  have HX := Lib.hid hx
  clear h he hs hx
  unfold Sch.val at *
  go_enter Try.func23, Try.ntmps23
  go_wp2_with fail
  refine (HP.out _ (HI.out.boxed _)).mono ?_
  rintro e w2 ⟨xb, rfl, hat, hb2⟩
  have hb3 := below_box _ hb2
  clear hb2
  go_wp2_with fail
  refine (serial_at O hat x HX.out).mono ?_
  rintro e w4 ⟨rfl, hb4⟩
  have hb5 := hb3.trans (hb4.mono hb3.size)
  rw [show serialErr s.A.data.toList s.L.toNat s.chk s.tt x.data.toList = s.serr x.data.toList from rfl]
  clear hb3 hb4
  go_wp2
  go_ret2
  exact ⟨rfl, hb5⟩

set_option maxHeartbeats 400000 in
theorem number_ok (x : ByteArray) (hx : x.size ≤ maxLen) (h : s.In w a) (he : s.err = 0) (hs : s.serr x.data.toList = 0) :
    Calls Try.prog 23 #[s.val a cap, .string x] w fun e w' => e = .returned (.tuple #[.int .i64 ((s.bods.filter fun p => wlt p (s.word x.data.toList)).length : Nat), .int .i64 0]) ∧ Below w.heap.size w w' := by
  have HP := Lib.hid (fun w2 (h2 : s.In w2 a) => prepare_ok (cap := cap) h2 he)
  have O := Sch.ok_of he
  have HI := Lib.hid h
  have HX := Lib.hid hx
  have HS := Lib.hid hs
  obtain ⟨z1, z2, z3, z4⟩ := serr_zero hs
  have hLx : s.L.toNat ≤ x.size := by rw [size_toList] at z1; rw [z1]; unfold sz; omega
  have hof := ofB_take z2 s.L.toNat
  have HL := Lib.hid hLx
  have HO := Lib.hid hof
  have hlow : s.low (anyM s.L.toNat s.chk) (idxs s.A.data.toList (x.data.toList.take s.L.toNat)) = (s.bods.filter fun p => wlt p (s.word x.data.toList)).length := by
    unfold Sch.low Sch.word; rw [Sch.mat_any O]
  have HLOW := Lib.hid hlow
  clear h he hs hx z1 z2 z3 z4 hLx hof hlow
  unfold Sch.val at *
  go_enter Try.func23, Try.ntmps23
  go_wp2_with fail
  refine (HP.out _ (HI.out.boxed _)).mono ?_
  rintro e w2 ⟨xb, rfl, hat, hb2⟩
  have hb3 := below_box _ hb2
  clear hb2
  go_wp2_with fail
  refine (serial_at O hat x HX.out).mono ?_
  rintro e w4 ⟨rfl, hb4⟩
  have hb5 := hb3.trans (hb4.mono hb3.size)
  have hat4 := hat.below hb4
  rw [show serialErr s.A.data.toList s.L.toNat s.chk s.tt x.data.toList = 0 from HS.out]
  clear hb3 hb4 hat
  go_wp2_with fail
  refine (any_at O hat4).mono ?_
  rintro e w6 ⟨rfl, hb6⟩
  have hb7 := hb5.trans (hb6.mono hb5.size)
  go_wp2_with fail
  refine (less_at O (hat4.below hb6) _ (any_size _ _) x HX.out HL.out HO.out).mono ?_
  rintro e w8 ⟨rfl, hb8⟩
  have hb9 := hb7.trans (hb8.mono hb7.size)
  rw [HLOW.out]
  clear hb5 hb6 hb7 hb8
  go_wp2
  go_ret2
  exact ⟨rfl, hb9⟩

/-- the error of Complete for a valid scheme -/
def Sch.cerr (s : Sch) (x : Bytes) : Nat :=
  if x.length ≠ s.L.toNat ∨ ofB x s.A.data.toList = false then 4 else if (walk s.tt 0 (idxs s.A.data.toList x)).isSome = false then 21 else 0

/-- what Complete returns for a valid scheme -/
def Sch.cstr (s : Sch) (x : Bytes) : Bytes := if s.cerr x = 0 then serialOf s.A.data.toList s.chk x else []

set_option maxHeartbeats 400000 in
theorem complete_err (x : ByteArray) (h : s.In w a) (he : s.err ≠ 0) :
    Calls Try.prog 27 #[s.val a cap, .string x] w fun e w' => e = .returned (.tuple #[.string ⟨#[]⟩, .int .i64 (s.err : Nat)]) ∧ Below w.heap.size w w' := by
  have HP := Lib.hid (fun w2 (h2 : s.In w2 a) => prepare_err (cap := cap) h2 he)
  have HI := Lib.hid h
  have hd : ((s.err : Int) != 0) = true := by rw [bne_iff_ne]; omega
  clear h he
  unfold Sch.val at *
  go_enter Try.func27, Try.ntmps27
  go_wp2_with fail
  refine (HP.out _ (HI.out.boxed _)).mono ?_
  rintro e w2 ⟨rfl, hb2⟩
  have hb3 := below_box _ hb2
  clear hb2
  go_wp2
  go_ret2
  exact ⟨rfl, hb3⟩

set_option maxRecDepth 100000 in
set_option maxHeartbeats 1000000 in
theorem complete_ok (x : ByteArray) (hx : x.size ≤ maxLen) (h : s.In w a) (he : s.err = 0) :
    Calls Try.prog 27 #[s.val a cap, .string x] w fun e w' =>
      e = .returned (.tuple #[.string ⟨(s.cstr x.data.toList).toArray⟩, .int .i64 (s.cerr x.data.toList : Nat)]) ∧ Below w.heap.size w w' := by
  have HP := Lib.hid (fun w2 (h2 : s.In w2 a) => prepare_ok (cap := cap) h2 he)
  have O := Sch.ok_of he
  have HI := Lib.hid h
  have HX := Lib.hid hx
  have hl1 := O.l1
  have hl16 := O.l16
  have ha2 := O.a2
  have ha36 := O.a36
  unfold maxLen at hx
  clear h he
  unfold Sch.val at *
  by_cases hsz : x.size = s.L.toNat
  · have hd0 : ((x.size : Int) != max s.L 0) = false := by rw [bne_eq_false_iff_eq]; omega
    cases hof : ofB x.data.toList s.A.data.toList
    · have hce : s.cerr x.data.toList = 4 := by unfold Sch.cerr; rw [if_pos (.inr hof)]
      have HC := Lib.hid hce
      have HS : Hid (s.cstr x.data.toList = []) := by show _ = _; unfold Sch.cstr; rw [if_neg (by rw [hce]; simp)]
      have HO := Lib.hid hof
      clear hce hof
      go_enter Try.func27, Try.ntmps27
      go_wp2_with fail
      refine (HP.out _ (HI.out.boxed _)).mono ?_
      rintro e w2 ⟨xb, rfl, hat, hb2⟩
      have hb3 := below_box _ hb2
      clear hb2
      obtain ⟨M, g, hsch, hnx⟩ := hat.sch
      have c0 := hsch.a
      have c1 := hsch.l
      go_wp2_with fail
      refine (of_any x s.A _ HX.out).mono ?_
      rintro e w4 ⟨rfl, rfl⟩
      rw [HO.out]
      go_wp2
      go_ret2
      exact ⟨by rw [HC.out, HS.out]; rfl, hb3⟩
    · have HO := Lib.hid hof
      cases hwk : (walk s.tt 0 (idxs s.A.data.toList x.data.toList)).isSome
      · have hce : s.cerr x.data.toList = 21 := by
          unfold Sch.cerr; rw [if_neg (by rw [size_toList, hof]; simp [hsz]), if_pos hwk]
        have HC := Lib.hid hce
        have HS : Hid (s.cstr x.data.toList = []) := by show _ = _; unfold Sch.cstr; rw [if_neg (by rw [hce]; simp)]
        have HW := Lib.hid hwk
        have HSZ := Lib.hid hsz
        clear hce hof hwk hsz
        go_enter Try.func27, Try.ntmps27
        go_wp2_with fail
        refine (HP.out _ (HI.out.boxed _)).mono ?_
        rintro e w2 ⟨xb, rfl, hat, hb2⟩
        have hb3 := below_box _ hb2
        clear hb2
        obtain ⟨M, g, hsch, hnx⟩ := hat.sch
        have c0 := hsch.a
        have c1 := hsch.l
        go_wp2_with fail
        refine (of_any x s.A _ HX.out).mono ?_
        rintro e w4 ⟨rfl, rfl⟩
        rw [HO.out]
        go_wp2_with fail
        refine (allowed_any hsch hnx (begs_pos _) x (by rw [HSZ.out]; omega) (by rw [HSZ.out]; omega) O.ascii HO.out).mono ?_
        rintro e w6 ⟨rfl, hb6⟩
        have hb7 := hb3.trans (hb6.mono hb3.size)
        rw [HW.out]
        clear hb3 hb6
        go_wp2
        go_ret2
        exact ⟨by rw [HC.out, HS.out]; rfl, hb7⟩
      · have hce : s.cerr x.data.toList = 0 := by
          unfold Sch.cerr; rw [if_neg (by rw [size_toList, hof]; simp [hsz]), if_neg (by rw [hwk]; simp)]
        have HC := Lib.hid hce
        have HS : Hid (s.cstr x.data.toList = serialOf s.A.data.toList s.chk x.data.toList) := by show _ = _; unfold Sch.cstr; rw [if_pos hce]
        have HW := Lib.hid hwk
        have HSZ := Lib.hid hsz
        clear hce hof hwk hsz
        go_enter Try.func27, Try.ntmps27
        go_wp2_with fail
        refine (HP.out _ (HI.out.boxed _)).mono ?_
        rintro e w2 ⟨xb, rfl, hat, hb2⟩
        have hb3 := below_box _ hb2
        clear hb2
        obtain ⟨M, g, hsch, hnx⟩ := hat.sch
        have c0 := hsch.a
        have c1 := hsch.l
        go_wp2_with fail
        refine (of_any x s.A _ HX.out).mono ?_
        rintro e w4 ⟨rfl, rfl⟩
        rw [HO.out]
        go_wp2_with fail
        refine (allowed_any hsch hnx (begs_pos _) x (by rw [HSZ.out]; omega) (by rw [HSZ.out]; omega) O.ascii HO.out).mono ?_
        rintro e w6 ⟨rfl, hb6⟩
        have hb7 := hb3.trans (hb6.mono hb3.size)
        rw [HW.out]
        clear hb3
        go_wp2_with fail
        refine (complete_any (hsch.below hb6) (by omega) ha36 x (by rw [HSZ.out]; omega) (by rw [HSZ.out]; omega) O.ascii HO.out).mono ?_
        rintro e w8 ⟨rfl, hb8⟩
        have hb9 := hb7.trans (hb8.mono hb7.size)
        clear hb6 hb7 hb8
        go_wp2
        go_ret2
        exact ⟨by rw [HC.out, HS.out]; rfl, hb9⟩
  · have hce : s.cerr x.data.toList = 4 := by unfold Sch.cerr; rw [if_pos (.inl (by rw [size_toList]; exact hsz))]
    have HC := Lib.hid hce
    have HS : Hid (s.cstr x.data.toList = []) := by show _ = _; unfold Sch.cstr; rw [if_neg (by rw [hce]; simp)]
    have hd0 : ((x.size : Int) != max s.L 0) = true := by rw [bne_iff_ne]; omega
    clear hce
    go_enter Try.func27, Try.ntmps27
    go_wp2_with fail
    refine (HP.out _ (HI.out.boxed _)).mono ?_
    rintro e w2 ⟨xb, rfl, hat, hb2⟩
    have hb3 := below_box _ hb2
    clear hb2
    obtain ⟨M, g, hsch, hnx⟩ := hat.sch
    have c0 := hsch.a
    have c1 := hsch.l
    go_wp2
    go_ret2
    exact ⟨by rw [HC.out, HS.out]; rfl, hb3⟩
end
end Go.Proofs.Yteleehldcpjndaa
