/- The contracts of package serial's allowed, complete and serial. Condition: the scheme lies in memory as 'SchAt' says, its table is that of an automaton. -/
import Derived.Test.YteleehldcpjndaaSerC
namespace Go.Proofs.Yteleehldcpjndaa
open Go Go.RowKit

/-- the value of a byte of the alphabet -/
def idx (A : List UInt8) (c : UInt8) : Nat := (Lib.indexByte A c).toNat
def idxs (A : List UInt8) (s : List UInt8) : List Nat := s.map (idx A)

theorem idx_lt {A : List UInt8} {c : UInt8} (h : A.contains c = true) : idx A c < A.length := by
  have h1 : 0 ≤ Lib.indexByte A c := by
    have := Lib.contains_iff_indexByte A c
    rw [h] at this; simpa using this.symm
  have h2 := Lib.indexByte_some (l := A) (c := c) (o := (Lib.indexByte A c).toNat) (by omega)
  have := (List.getElem?_eq_some_iff.1 h2.1).1
  exact this

theorem idx_get {A : List UInt8} {c : UInt8} (h : A.contains c = true) : A.getD (idx A c) 0 = c := by
  have h1 : 0 ≤ Lib.indexByte A c := by
    have := Lib.contains_iff_indexByte A c
    rw [h] at this; simpa using this.symm
  have h2 := Lib.indexByte_some (l := A) (c := c) (o := (Lib.indexByte A c).toNat) (by omega)
  rw [List.getD_eq_getElem?_getD]
  show (A[(Lib.indexByte A c).toNat]?).getD 0 = c
  rw [h2.1]; rfl

theorem vals_idxs {A s : List UInt8} (h : ofB s A = true) : vals A s = (idxs A s).map Int.ofNat := by
  unfold vals idxs ofB at *
  rw [List.map_map]
  apply List.map_congr_left
  intro c hc
  have := List.all_eq_true.1 h c hc
  have h1 : 0 ≤ Lib.indexByte A c := by
    have h2 := Lib.contains_iff_indexByte A c
    rw [this] at h2; simpa using h2.symm
  simp only [Function.comp, idx]
  show _ = ((Lib.indexByte A c).toNat : Int)
  omega

theorem idxs_lt {A s : List UInt8} (h : ofB s A = true) : ∀ v ∈ idxs A s, v < A.length := by
  intro v hv
  simp only [idxs, List.mem_map] at hv
  obtain ⟨c, hc, rfl⟩ := hv
  exact idx_lt (List.all_eq_true.1 h c hc)

theorem txt_idxs {A s : List UInt8} (h : ofB s A = true) : txt A (idxs A s) = s := by
  unfold txt idxs
  rw [List.map_map]
  have : ∀ c ∈ s, ((fun v => A.getD v 0) ∘ idx A) c = c := fun c hc => idx_get (List.all_eq_true.1 h c hc)
  rw [List.map_congr_left this]; simp

/-- a table in memory is that of a partial function -/
def NxIs (nx : Int × Int → Option Int) (n m : Nat) (t : Nat → Nat → Option Nat) : Prop :=
  ∀ i v : Nat, i < n → v < m → nx ((i : Int), (v : Int)) = some (match t i v with | none => -1 | some j => (j : Int)) ∧ ∀ j, t i v = some j → j < n

theorem walk_snoc {σ : Type} (step : σ → Nat → Option σ) : ∀ (p : List Nat) (s : σ) (v : Nat), walk step s (p ++ [v]) = (walk step s p).bind fun t => step t v
  | [], s, v => by simp [walk]; cases step s v <;> rfl
  | u :: p, s, v => by
    simp only [List.cons_append, walk]
    cases step s u with
    | none => rfl
    | some t => exact walk_snoc step p t v

theorem walk_take_none {σ : Type} (step : σ → Nat → Option σ) : ∀ (p : List Nat) (s : σ) (k : Nat), walk step s (p.take k) = none → walk step s p = none
  | [], s, k, h => by simpa using h
  | u :: p, s, 0, h => by simp [walk] at h
  | u :: p, s, k + 1, h => by
    simp only [List.take_succ_cons, walk] at h ⊢
    cases hs : step s u with
    | none => rfl
    | some t => rw [hs] at h; exact walk_take_none step p t k h

theorem take_snocN (l : List Nat) (k : Nat) (h : k < l.length) : l.take (k + 1) = l.take k ++ [l.getD k 0] := by
  rw [List.take_succ_eq_append_getElem h, List.getD_eq_getElem?_getD, List.getElem?_eq_getElem h]; rfl

section
variable {w : World} {p : Nat} {A : ByteArray} {L : Nat} {chk : Bool} {M : Nat} {nx : Int × Int → Option Int} {n : Nat} {t : Nat → Nat → Option Nat}

theorem ascii_of {A s : ByteArray} (hA : ∀ c ∈ A.data.toList, c.toNat < 128) (h : ofB s.data.toList A.data.toList = true) : ∀ k (hk : k < s.size), s[k].toNat < 128 := by
  intro k hk
  have h1 : s[k] ∈ s.data.toList := by simp [ByteArray.getElem_eq_getElem_data]
  have h2 := List.all_eq_true.1 h _ h1
  exact hA _ (by simpa using h2)

/-- a slice of ints that are natural numbers, not empty -/
theorem IntsAt.pos {v : Value} {P : List Nat} (h : IntsAt w v (P.map Int.ofNat)) {k : Nat} (hl : P.length = k) (hk : 0 < k) : ∃ g cap, v = .slice (some ⟨g, 0, none⟩) k cap ∧ Hid (∀ i, i < k → w.cell? ⟨g, i, none⟩ = some (.int .i64 (P.getD i 0 : Nat))) := by
  subst hl
  rcases h with ⟨h, _⟩ | ⟨g, cap, rfl, h⟩
  · have := List.map_eq_nil_iff.1 h; subst this; simp at hk
  · refine ⟨g, cap, by simp, Lib.hid ?_⟩
    intro i hi
    rw [h i (by simpa using hi)]
    rw [List.getD_eq_getElem?_getD, List.getElem?_map, List.getElem?_eq_getElem hi, List.getD_eq_getElem?_getD, List.getElem?_eq_getElem hi]; rfl

set_option maxRecDepth 100000 in
set_option maxHeartbeats 1000000 in
theorem allowed_any (h : SchAt w p A L chk M nx) (hn : NxIs nx n A.size t) (h0 : 0 < n) (s : ByteArray) (hs : s.size ≤ 1000) (hs0 : 0 < s.size) (hA : ∀ c ∈ A.data.toList, c.toNat < 128) (hof : ofB s.data.toList A.data.toList = true) :
    Calls Try.prog 52 #[.pointer (some ⟨p, 0, none⟩), .string s] w
      fun e w' => e = .returned (.bool (walk t 0 (idxs A.data.toList s.data.toList)).isSome) ∧ Below w.heap.size w w' := by
  obtain ⟨P, hP⟩ : ∃ P, P = idxs A.data.toList s.data.toList := ⟨_, rfl⟩
  have hv := vals_idxs hof
  have hlt := idxs_lt hof
  have hlen : P.length = s.size := by rw [hP]; simp [idxs]
  rw [← hP] at hv hlt ⊢
  have HP := Lib.hid hP
  clear hP
  have HV := Lib.hid hv
  clear hv
  have HL := Lib.hid hlen
  clear hlen
  go_enter Try.func52, Try.ntmps52
  go_wp2_with fail
  refine (values_any h s hs (ascii_of hA hof)).mono ?_
  rintro e w' ⟨v, rfl, hi, hb⟩
  rw [HV.out] at hi
  obtain ⟨g, cap, rfl, hcell⟩ := hi.pos HL.out hs0
  have hw' := h.below hb
  have h4 := hw'.m
  go_wp2_with fail
  go_loop [5, 12] (fun st i => ∃ k j : Nat, k ≤ s.size ∧ i = .int .i64 k ∧ st = .int .i64 j ∧ j < n ∧ walk t 0 (P.take k) = some j) (fun _ i => s.size - (intOf i).toNat)
  case atStart => exact ⟨0, 0, Nat.zero_le _, rfl, rfl, h0, rfl⟩
  case round =>
    obtain ⟨k, j, hk, rfl, rfl, hj, hwk⟩ := hrel
    have HW := Lib.hid hwk
    clear hwk
    by_cases hlt' : k < s.size
    · have hc := hcell.out k hlt'
      have hkP : k < P.length := by rw [HL.out]; exact hlt'
      have hmem : P.getD k 0 ∈ P := by rw [List.getD_eq_getElem?_getD, List.getElem?_eq_getElem hkP]; simp
      have hvlt := hlt _ hmem
      obtain ⟨u, hu⟩ : ∃ u, u = P.getD k 0 := ⟨_, rfl⟩
      rw [← hu] at hc hvlt
      have HU := Lib.hid hu
      clear hu hmem
      obtain ⟨hnx, hjn⟩ := hn j u hj (by simpa using hvlt)
      have hlook := hw'.look j u _ hnx
      have hstep : walk t 0 (P.take (k + 1)) = t j u := by
        rw [take_snocN P k hkP, walk_snoc, HW.out, ← HU.out]; rfl
      cases htj : t j u with
      | none =>
        rw [htj] at hstep
        simp only [htj] at hlook
        have hfin := walk_take_none t P 0 (k + 1) hstep
        have HF := Lib.hid hfin
        clear hnx htj hjn hstep hfin
        go_wp2
        go_ret
        exact ⟨by rw [HF.out]; rfl, hb⟩
      | some j' =>
        rw [htj] at hstep
        simp only [htj] at hlook
        have hj' := hjn j' htj
        clear hnx htj hjn
        have HS := Lib.hid hstep
        clear hstep
        have hne : ((j' : Int) == -1) = false := by rw [beq_eq_false_iff_ne]; omega
        go_wp2
        go_round
        case rel => exact ⟨k + 1, j', by omega, by go_num, rfl, hj', HS.out⟩
        case measure => simp [intOf]; omega
    · have hk2 : k = s.size := by omega
      have hfin : walk t 0 P = some j := by rw [← HW.out, List.take_of_length_le (by rw [HL.out]; omega)]
      have HF := Lib.hid hfin
      clear hfin
      subst hk2
      go_wp2
      go_ret
      exact ⟨by rw [HF.out]; rfl, hb⟩

/-- the sum of the check character behind a word -/
def foldAll (m q : Nat) (l : List Nat) : Nat := l.foldl (fold1 m) q

theorem foldAll_le (m q : Nat) (l : List Nat) (hq : q ≤ m) : foldAll m q l ≤ m := by
  induction l generalizing q with
  | nil => exact hq
  | cons v l ih => exact ih _ (fold1_lt m q v)

theorem foldAll_snoc (m q : Nat) (l : List Nat) (v : Nat) : foldAll m q (l ++ [v]) = fold1 m (foldAll m q l) v := by simp [foldAll]

/-- a body with its check character -/
def serialOf (A : List UInt8) (chk : Bool) (s : List UInt8) : List UInt8 := s ++ (if chk then [A.getD (check1 A.length (foldAll A.length A.length (idxs A s))) 0] else [])

theorem extract_one (A : ByteArray) (c : Nat) (h : c < A.size) : (A.extract c (c + 1)).data.toList = [A.data.toList.getD c 0] := by
  have : A.data.toList.length = A.size := by simp
  rw [ByteArray.data_extract, Array.toList_extract, List.extract_eq_take_drop, show c + 1 - c = 1 by omega, List.getD_eq_getElem?_getD, List.getElem?_eq_getElem (by omega)]
  rw [List.drop_eq_getElem_cons (by omega)]; rfl

theorem app_eq (s B : ByteArray) (l : List UInt8) (h : s.data.toList ++ B.data.toList = l) : s ++ B = ⟨l.toArray⟩ := by
  apply ByteArray.ext
  rw [← h]; simp

set_option maxRecDepth 100000 in
set_option maxHeartbeats 1000000 in
theorem complete_any (h : SchAt w p A L chk M nx) (hm : 0 < A.size) (hA36 : A.size ≤ 36) (s : ByteArray) (hs : s.size ≤ 1000) (hs0 : 0 < s.size) (hA : ∀ c ∈ A.data.toList, c.toNat < 128) (hof : ofB s.data.toList A.data.toList = true) :
    Calls Try.prog 53 #[.pointer (some ⟨p, 0, none⟩), .string s] w
      fun e w' => e = .returned (.string ⟨(serialOf A.data.toList chk s.data.toList).toArray⟩) ∧ Below w.heap.size w w' := by
  have h3 := h.c
  cases chk
  · go_enter Try.func53, Try.ntmps53
    go_wp2
    go_ret
    exact ⟨ret_str (by simp [serialOf]), Below.refl _ _⟩
  · have h1 := h.a
    obtain ⟨P, hP⟩ : ∃ P, P = idxs A.data.toList s.data.toList := ⟨_, rfl⟩
    have hv := vals_idxs hof
    have hlt := idxs_lt hof
    have hlen : P.length = s.size := by rw [hP]; simp [idxs]
    rw [← hP] at hv hlt
    have HP := Lib.hid hP
    clear hP
    have HV := Lib.hid hv
    clear hv
    have HL := Lib.hid hlen
    clear hlen
    go_enter Try.func53, Try.ntmps53
    go_wp2_with fail
    refine (values_any h s hs (ascii_of hA hof)).mono ?_
    rintro e w' ⟨v, rfl, hi, hb⟩
    rw [HV.out] at hi
    obtain ⟨g, cap, rfl, hcell⟩ := hi.pos HL.out hs0
    have hw' := h.below hb
    have h1 := hw'.a
    go_wp2_with fail
    go_loop [5, 26] (fun q i => ∃ k j : Nat, k ≤ s.size ∧ i = .int .i64 k ∧ q = .int .i64 j ∧ j ≤ A.size ∧ foldAll A.size A.size (P.take k) = j) (fun _ i => s.size - (intOf i).toNat)
    case atStart => exact ⟨0, A.size, Nat.zero_le _, rfl, rfl, Nat.le_refl _, rfl⟩
    case round =>
      obtain ⟨k, j, hk, rfl, rfl, hj, hwk⟩ := hrel
      have HW := Lib.hid hwk
      clear hwk
      by_cases hlt' : k < s.size
      · have hc := hcell.out k hlt'
        have hkP : k < P.length := by rw [HL.out]; exact hlt'
        have hmem : P.getD k 0 ∈ P := by rw [List.getD_eq_getElem?_getD, List.getElem?_eq_getElem hkP]; simp
        have hvlt := hlt _ hmem
        obtain ⟨u, hu⟩ : ∃ u, u = P.getD k 0 := ⟨_, rfl⟩
        rw [← hu] at hc hvlt
        have HU := Lib.hid hu
        clear hu hmem
        have hvlt : u < A.size := by simpa using hvlt
        have hstep : foldAll A.size A.size (P.take (k + 1)) = fold1 A.size j u := by
          rw [take_snocN P k hkP, foldAll_snoc, HW.out, ← HU.out]
        have HS := Lib.hid hstep
        clear hstep
        go_wp2_with fail
        refine (fold_any hw' j u hm hA36 (by omega) (by omega)).mono ?_
        rintro e w2 ⟨rfl, rfl⟩
        go_wp2
        go_round
        case rel => exact ⟨k + 1, _, by omega, by go_num, rfl, fold1_lt _ _ _, HS.out⟩
        case measure => simp [intOf]; omega
      · have hk2 : k = s.size := by omega
        have hfin : foldAll A.size A.size P = j := by rw [← HW.out, List.take_of_length_le (by rw [HL.out]; omega)]
        have HF := Lib.hid hfin
        clear hfin
        subst hk2
        go_wp2_with fail
        refine (check_any hw' j hm hA36 hj).mono ?_
        rintro e w2 ⟨rfl, rfl⟩
        have hcl : check1 A.size j < A.size := Nat.mod_lt _ hm
        go_wp2
        go_ret
        refine ⟨ret_str ?_, hb⟩
        apply app_eq
        have hsz : A.data.toList.length = A.size := by simp
        rw [extract_one A _ hcl]
        unfold serialOf
        rw [if_pos rfl, ← HP.out, hsz, HF.out]

/-- the error of a text that is no serial, or 0 -/
def serialErr (A : List UInt8) (L : Nat) (chk : Bool) (t : Nat → Nat → Option Nat) (s : List UInt8) : Nat :=
  if s.length ≠ sz L chk ∨ ofB s A = false then 4
  else if (walk t 0 (idxs A (s.take L))).isSome = false then 21
  else if serialOf A chk (s.take L) ≠ s then 22
  else 0

set_option maxRecDepth 100000 in
set_option maxHeartbeats 1000000 in
theorem serial_any (h : SchAt w p A L chk M nx) (hn : NxIs nx n A.size t) (h0 : 0 < n) (hL : 1 ≤ L) (hL16 : L ≤ 16) (hm : 0 < A.size) (hA36 : A.size ≤ 36) (s : ByteArray) (hs : s.size ≤ maxLen) (hA : ∀ c ∈ A.data.toList, c.toNat < 128) :
    Calls Try.prog 49 #[.pointer (some ⟨p, 0, none⟩), .string s] w
      fun e w' => e = .returned (.int .i64 (serialErr A.data.toList L chk t s.data.toList : Nat)) ∧ Below w.heap.size w w' := by
  have h1 := h.a
  have h2 := h.l
  have hs' := hs
  unfold maxLen at hs'
  have hss : s.data.toList.length = s.size := by simp
  by_cases hsz : s.size = sz L chk
  · have hne : ((s.size : Int) != (sz L chk : Int)) = false := by rw [bne_eq_false_iff_eq]; omega
    cases hof : ofB s.data.toList A.data.toList
    · have HF : Hid (serialErr A.data.toList L chk t s.data.toList = 4) := by unfold Hid serialErr; rw [if_pos (.inr hof)]
      have HO := Lib.hid hof
      clear hof
      go_enter Try.func49, Try.ntmps49
      go_wp2_with fail
      refine (size_any h hL16).mono ?_
      rintro e w2 ⟨rfl, rfl⟩
      go_wp2_with fail
      refine (of_any s A _ hs).mono ?_
      rintro e w2 ⟨rfl, rfl⟩
      rw [HO.out]
      go_wp2
      go_ret
      exact ⟨by rw [HF.out]; rfl, Below.refl _ _⟩
    · have hLs : L ≤ s.size := by rw [hsz]; unfold sz; split <;> omega
      have hex : (s.extract 0 L).data.toList = s.data.toList.take L := by
        rw [ByteArray.data_extract, Array.toList_extract, List.extract_eq_take_drop]; simp
      have hexs : (s.extract 0 L).size = L := by
        have := congrArg List.length hex
        simp at this ⊢; omega
      have hofb : ofB (s.extract 0 L).data.toList A.data.toList = true := by
        rw [hex]; unfold ofB at *
        rw [List.all_eq_true] at *
        exact fun c hc => hof c (List.mem_of_mem_take hc)
      have HO := Lib.hid hof
      have HOB := Lib.hid hofb
      have HX := Lib.hid hex
      have HXS := Lib.hid hexs
      have HSZ := Lib.hid hsz
      have HSS := Lib.hid hss
      clear hof hofb hex hexs hsz hss
      have hL1000 : L ≤ 1000 := by omega
      cases hwk : (walk t 0 (idxs A.data.toList (s.data.toList.take L))).isSome
      · have HF : Hid (serialErr A.data.toList L chk t s.data.toList = 21) := by
          unfold Hid serialErr; rw [if_neg (by rw [HSS.out, HSZ.out, HO.out]; simp), if_pos hwk]
        have HW := Lib.hid hwk
        clear hwk
        go_enter Try.func49, Try.ntmps49
        go_wp2_with fail
        refine (size_any h hL16).mono ?_
        rintro e w2 ⟨rfl, rfl⟩
        go_wp2_with fail
        refine (of_any s A _ hs).mono ?_
        rintro e w2 ⟨rfl, rfl⟩
        rw [HO.out]
        go_wp2_with fail
        refine (allowed_any h hn h0 _ (by rw [HXS.out]; exact hL1000) (by rw [HXS.out]; exact hL) hA HOB.out).mono ?_
        rintro e w2 ⟨rfl, hb2⟩
        rw [HX.out, HW.out]
        go_wp2
        go_ret
        exact ⟨by rw [HF.out]; rfl, hb2⟩
      · have HW := Lib.hid hwk
        by_cases hser : serialOf A.data.toList chk (s.data.toList.take L) = s.data.toList
        · have HF : Hid (serialErr A.data.toList L chk t s.data.toList = 0) := by
            unfold Hid serialErr; rw [if_neg (by rw [HSS.out, HSZ.out, HO.out]; simp), if_neg (by rw [hwk]; simp), if_neg (by rw [hser]; simp)]
          have HS := Lib.hid hser
          clear hser hwk
          go_enter Try.func49, Try.ntmps49
          go_wp2_with fail
          refine (size_any h hL16).mono ?_
          rintro e w2 ⟨rfl, rfl⟩
          go_wp2_with fail
          refine (of_any s A _ hs).mono ?_
          rintro e w2 ⟨rfl, rfl⟩
          rw [HO.out]
          go_wp2_with fail
          refine (allowed_any h hn h0 _ (by rw [HXS.out]; exact hL1000) (by rw [HXS.out]; exact hL) hA HOB.out).mono ?_
          rintro e w2 ⟨rfl, hb2⟩
          rw [HX.out, HW.out]
          have h2 := (h.below hb2).l
          go_wp2_with fail
          refine (complete_any (h.below hb2) hm hA36 _ (by rw [HXS.out]; exact hL1000) (by rw [HXS.out]; exact hL) hA HOB.out).mono ?_
          rintro e w3 ⟨rfl, hb3⟩
          rw [HX.out, HS.out]
          go_wp2
          go_ret
          exact ⟨by rw [HF.out]; rfl, hb2.trans (hb3.mono hb2.size)⟩
        · have HF : Hid (serialErr A.data.toList L chk t s.data.toList = 22) := by
            unfold Hid serialErr; rw [if_neg (by rw [HSS.out, HSZ.out, HO.out]; simp), if_neg (by rw [hwk]; simp), if_pos hser]
          obtain ⟨z, hz⟩ : ∃ z : ByteArray, z = ⟨(serialOf A.data.toList chk (s.data.toList.take L)).toArray⟩ := ⟨_, rfl⟩
          have hne2 : (z.toList == s.toList) = false := by
            rw [beq_eq_false_iff_ne]; intro hc; apply hser
            rw [Lib.toList_data, Lib.toList_data, hz] at hc
            simpa using hc
          have HZ := Lib.hid hz
          clear hser hwk hz
          go_enter Try.func49, Try.ntmps49
          go_wp2_with fail
          refine (size_any h hL16).mono ?_
          rintro e w2 ⟨rfl, rfl⟩
          go_wp2_with fail
          refine (of_any s A _ hs).mono ?_
          rintro e w2 ⟨rfl, rfl⟩
          rw [HO.out]
          go_wp2_with fail
          refine (allowed_any h hn h0 _ (by rw [HXS.out]; exact hL1000) (by rw [HXS.out]; exact hL) hA HOB.out).mono ?_
          rintro e w2 ⟨rfl, hb2⟩
          rw [HX.out, HW.out]
          have h2 := (h.below hb2).l
          go_wp2_with fail
          refine (complete_any (h.below hb2) hm hA36 _ (by rw [HXS.out]; exact hL1000) (by rw [HXS.out]; exact hL) hA HOB.out).mono ?_
          rintro e w3 ⟨rfl, hb3⟩
          rw [HX.out, ← HZ.out]
          go_wp2
          go_ret
          exact ⟨by rw [HF.out]; rfl, hb2.trans (hb3.mono hb2.size)⟩
  · have HF : Hid (serialErr A.data.toList L chk t s.data.toList = 4) := by
      unfold Hid serialErr; rw [if_pos (.inl (by rw [hss]; exact hsz))]
    have hne : ((s.size : Int) != (sz L chk : Int)) = true := by rw [bne_iff_ne]; omega
    go_enter Try.func49, Try.ntmps49
    go_wp2_with fail
    refine (size_any h hL16).mono ?_
    rintro e w2 ⟨rfl, rfl⟩
    go_wp2
    go_ret
    exact ⟨by rw [HF.out]; rfl, Below.refl _ _⟩
end
end Go.Proofs.Yteleehldcpjndaa
