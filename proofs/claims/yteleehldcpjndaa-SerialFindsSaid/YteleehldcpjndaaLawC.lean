/- What it is to match a mask; Below by rank; the reference's Matches. Condition: the scheme's parts are in memory. -/
import Derived.Test.YteleehldcpjndaaLawB
import Derived.Test.YteleehldcpjndaaSerQ
namespace Go.Proofs.Yteleehldcpjndaa
open Go Go.RowKit

/-- a text matches a mask -/
def fits (m x : Bytes) : Bool := (List.range m.length).all fun i => m.getD i 0 == 63 || m.getD i 0 == x.getD i 0

theorem fits_iff (m x : Bytes) : fits m x = true ↔ ∀ i, i < m.length → m.getD i 0 = 63 ∨ m.getD i 0 = x.getD i 0 := by
  unfold fits
  rw [List.all_eq_true]
  simp [List.mem_range]

theorem letsFrom_iff (A mask : ByteArray) : ∀ (p : List Nat) (a : Nat), letsFrom A mask a p = true ↔ ∀ i, i < p.length → bt mask (a + i) = 63 ∨ bt mask (a + i) = bt A (p.getD i 0)
  | [], a => by simp [letsFrom]
  | v :: p, a => by
    unfold letsFrom
    rw [Bool.and_eq_true, letsFrom_iff A mask p (a + 1)]
    constructor
    · rintro ⟨h1, h2⟩ i hi
      cases i with
      | zero => simpa [lets1, Bool.or_eq_true] using h1
      | succ i =>
        have := h2 i (by simpa using hi)
        simpa [show a + 1 + i = a + (i + 1) by omega] using this
    · intro h
      refine ⟨?_, fun i hi => ?_⟩
      · have := h 0 (by simp)
        simpa [lets1, Bool.or_eq_true] using this
      · have := h (i + 1) (by simpa using hi)
        simpa [show a + 1 + i = a + (i + 1) by omega] using this

theorem filter_lt_take : ∀ (x : List (List Nat)), x.Pairwise (fun a b => wlt a b = true) → ∀ k (h : k < x.length), (x.filter fun p => wlt p x[k]) = x.take k
  | [], _, k, h => by simp at h
  | a :: x, hx, 0, _ => by
    rw [List.pairwise_cons] at hx
    simp only [List.getElem_cons_zero, List.filter_cons, wlt_irrefl, List.take_zero]
    simp only [Bool.false_eq_true, if_false, List.filter_eq_nil_iff]
    intro b hb h
    have := wlt_trans _ _ _ (hx.1 b hb) h
    rw [wlt_irrefl] at this; cases this
  | a :: x, hx, k + 1, h => by
    rw [List.pairwise_cons] at hx
    have hk : k < x.length := by simpa using h
    simp only [List.getElem_cons_succ, List.filter_cons, List.take_succ_cons]
    rw [if_pos (hx.1 _ (List.getElem_mem hk)), filter_lt_take x hx.2 k hk]

section
variable {w : World} {s : Sch} {a : Option Addr} {cap : Nat}

theorem ser_getD (O : s.Ok) {T : List Nat} (h : T ∈ s.bods) (i : Nat) (hi : i < s.L.toNat) : (s.ser T).getD i 0 = bt s.A (T.getD i 0) := by
  obtain ⟨h1, _, _⟩ := bods_len O h
  unfold Sch.ser serialOf
  rw [List.getD_eq_getElem?_getD, List.getElem?_append_left (by rw [txt_len, h1]; exact hi), ← List.getD_eq_getElem?_getD]
  unfold txt bt
  rw [List.getD_eq_getElem?_getD, List.getElem?_map, List.getElem?_eq_getElem (by rw [h1]; exact hi), List.getD_eq_getElem?_getD (l := T), List.getElem?_eq_getElem (by rw [h1]; exact hi)]
  rfl

theorem ser_last (O : s.Ok) {T : List Nat} (h : T ∈ s.bods) (hc : s.chk = true) : (s.ser T).getD s.L.toNat 0 = bt s.A (check1 s.A.size (foldAll s.A.size s.A.size T)) := by
  obtain ⟨h1, h2, _⟩ := bods_len O h
  unfold Sch.ser serialOf
  rw [idxs_txt O h2, if_pos hc, List.getD_eq_getElem?_getD, List.getElem?_append_right (by rw [txt_len, h1]; exact Nat.le_refl _), txt_len, h1, Nat.sub_self, size_toList]
  rfl

theorem fits_ser (O : s.Ok) {T : List Nat} (h : T ∈ s.bods) {mask : ByteArray} (hm : mask.size = sz s.L.toNat s.chk) : fitsM s.A mask s.L.toNat s.chk T = fits mask.data.toList (s.ser T) := by
  obtain ⟨h1, h2, _⟩ := bods_len O h
  rw [Bool.eq_iff_iff, fits_iff, size_toList, hm]
  unfold fitsM
  rw [Bool.and_eq_true, letsFrom_iff, h1]
  have hbt : ∀ i, bt mask i = mask.data.toList.getD i 0 := fun i => rfl
  constructor
  · rintro ⟨g1, g2⟩ i hi
    by_cases hiL : i < s.L.toNat
    · have := g1 i hiL
      rw [Nat.zero_add, hbt] at this
      rwa [ser_getD O h i hiL]
    · cases hc : s.chk with
      | false => unfold sz at hi; rw [hc] at hi; simp at hi; omega
      | true =>
        obtain rfl : i = s.L.toNat := by unfold sz at hi; rw [hc] at hi; simp at hi; omega
        rw [ser_last O h hc]
        unfold sumsB at g2
        rw [hc, hbt] at g2
        by_cases h63 : mask.data.toList.getD s.L.toNat 0 = 63
        · exact .inl h63
        · right
          have h64 : (mask.data.toList.getD s.L.toNat 0 != 63) = true := by rw [bne_iff_ne]; exact h63
          rw [h64] at g2
          simp only [Bool.true_and, Bool.not_eq_true'] at g2
          rw [bne_eq_false_iff_eq] at g2
          exact g2.symm
  · intro g
    refine ⟨fun i hi => ?_, ?_⟩
    · have := g i (by unfold sz; omega)
      rw [ser_getD O h i hi] at this
      rw [Nat.zero_add, hbt]; exact this
    · unfold sumsB
      cases hc : s.chk with
      | false => simp
      | true =>
        have := g s.L.toNat (by unfold sz; rw [hc]; simp)
        rw [ser_last O h hc] at this
        rw [hbt]
        rcases this with h63 | h63
        · rw [h63]; simp
        · rw [h63]; simp

/-- how many of the first n serials match a mask -/
def Sch.rank (s : Sch) (mask : ByteArray) (n : Nat) : Nat := ((s.bods.take n).filter (fitsM s.A mask s.L.toNat s.chk)).length

theorem low_rank (O : s.Ok) {n : Nat} {T : List Nat} (mask : ByteArray) (h : s.bods[n]? = some T) : s.low mask (s.word (s.ser T)) = s.rank mask n := by
  obtain ⟨hlt, he⟩ := List.getElem?_eq_some_iff.1 h
  rw [ser_word O (List.mem_of_getElem? h)]
  unfold Sch.low Sch.mat Sch.rank
  have h1 : s.bods.filter (fun p => wlt p s.bods[n]) = s.bods.take n := filter_lt_take s.bods (bodies_sorted s.A.data.toList s.B s.L.toNat) n hlt
  rw [← h1, he, List.filter_filter, List.filter_filter]
  congr 2
  funext p
  exact Bool.and_comm _ _

theorem rank_all (mask : ByteArray) : s.rank mask s.bods.length = (s.mat mask).length := by
  unfold Sch.rank Sch.mat; rw [List.take_length]

/-- Below at a number from 0 to Count -/
theorem below_in (mask : ByteArray) (n : Nat) (hx : mask.size ≤ maxLen) (h : s.In w a) (he : s.err = 0) (hs : s.okM mask = true) (hn : n ≤ s.bods.length) :
    Calls Try.prog 36 #[s.val a cap, .string mask, .int .i64 n] w fun e w' => e = .returned (.tuple #[.int .i64 (s.rank mask n : Nat), .int .i64 0]) ∧ Below w.heap.size w w' := by
  by_cases hb : n = s.bods.length
  · subst hb
    rw [rank_all]
    exact below_all mask hx h he hs
  · have hT : s.bods[n]? = some (s.bods[n]'(by omega)) := List.getElem?_eq_getElem (by omega)
    rw [← low_rank (Sch.ok_of he) mask hT]
    exact below_ok mask n _ hx h he hs hT

theorem mat_sorted (s : Sch) (mask : ByteArray) : (s.mat mask).Pairwise (fun a b => wlt a b = true) := (bodies_sorted s.A.data.toList s.B s.L.toNat).filter _

/-- the k-th serial that matches has a number, and k are lower -/
theorem mat_rank (O : s.Ok) {mask : ByteArray} {k : Nat} {T : List Nat} (h : (s.mat mask)[k]? = some T) :
    ∃ n, s.bods[n]? = some T ∧ s.rank mask n = k ∧ s.rank mask (n + 1) = k + 1 ∧ n < s.bods.length ∧ fitsM s.A mask s.L.toNat s.chk T = true := by
  have hT : T ∈ s.mat mask := List.mem_of_getElem? h
  have hT2 : T ∈ s.bods := (List.mem_filter.1 hT).1
  have hf := (List.mem_filter.1 hT).2
  obtain ⟨n, hn⟩ := List.getElem?_of_mem hT2
  obtain ⟨hlt, he⟩ := List.getElem?_eq_some_iff.1 hn
  obtain ⟨hk, hke⟩ := List.getElem?_eq_some_iff.1 h
  have h1 : s.rank mask n = k := by
    rw [← low_rank O mask hn, ser_word O hT2]
    unfold Sch.low
    rw [← hke]
    exact filter_lt_get _ (mat_sorted s mask) k hk
  refine ⟨n, hn, h1, ?_, hlt, hf⟩
  rw [← h1]
  unfold Sch.rank
  rw [List.take_succ_eq_append_getElem hlt, List.filter_append, List.length_append, he]
  simp [hf]

/-! ### the reference's Matches -/
set_option maxHeartbeats 400000 in
theorem refmatches_any (m x : ByteArray) (w : World) (hm : m.size ≤ x.size) (hx : x.size ≤ maxLen) :
    Calls Try.prog 40 #[.string m, .string x] w fun e w' => e = .returned (.bool (fits m.data.toList x.data.toList)) ∧ Below w.heap.size w w' := by
  unfold maxLen at hx
  go_enter Try.func40, Try.ntmps40
  go_wp2_with fail
  go_loopw [5] (fun i wr => ∃ k : Nat, k ≤ m.size ∧ i = .int .i64 k ∧ Hid (∀ j, j < k → m.data.toList.getD j 0 = 63 ∨ m.data.toList.getD j 0 = x.data.toList.getD j 0) ∧ Below w.heap.size w wr) (fun i _ => m.size - (intOf i).toNat)
  case atStart => exact ⟨0, Nat.zero_le _, rfl, Lib.hid (fun j hj => by omega), Below.refl _ _⟩
  case round =>
    obtain ⟨k, hk, rfl, hr, hb⟩ := hrel
    by_cases hlt : k < m.size
    · have hlt2 : k < x.size := by omega
      have e1 : m[k] = m.data.toList.getD k 0 := by rw [bt_get hlt]; rfl
      have e2 : x[k] = x.data.toList.getD k 0 := by rw [bt_get hlt2]; rfl
      by_cases h63 : m[k] = 63
      · have hd : ((m[k].toNat : Int) != 63) = false := by rw [int_ne_63, bne_eq_false_iff_eq]; exact h63
        have HM : Hid (m.data.toList.getD k 0 = 63) := Lib.hid (by rw [← e1]; exact h63)
        clear e1 e2 h63
        go_wp2_with fail
        go_quiet (fail)
        go_wp2
        go_roundw
        case rel =>
          refine ⟨k + 1, by omega, by go_num, Lib.hid (fun j hj => ?_), hb.trans ((below_drewN _ _).mono hb.size)⟩
          by_cases hjk : j = k
          · subst hjk; exact .inl HM.out
          · exact hr.out j (by omega)
        case measure => simp [intOf]; omega
      · have hd : ((m[k].toNat : Int) != 63) = true := by rw [int_ne_63, bne_iff_ne]; exact h63
        by_cases heq : m[k] = x[k]
        · have hd2 : ((m[k].toNat : Int) != (x[k].toNat : Int)) = false := by rw [int_ne_bytes, bne_eq_false_iff_eq]; exact heq
          have HM : Hid (m.data.toList.getD k 0 = x.data.toList.getD k 0) := Lib.hid (by rw [← e1, ← e2]; exact heq)
          clear e1 e2 h63 heq
          go_wp2_with fail
          go_quiet (fail)
          go_wp2
          go_roundw
          case rel =>
            refine ⟨k + 1, by omega, by go_num, Lib.hid (fun j hj => ?_), hb.trans ((below_drewN _ _).mono hb.size)⟩
            by_cases hjk : j = k
            · subst hjk; exact .inr HM.out
            · exact hr.out j (by omega)
          case measure => simp [intOf]; omega
        · have hd2 : ((m[k].toNat : Int) != (x[k].toNat : Int)) = true := by rw [int_ne_bytes, bne_iff_ne]; exact heq
          have HM : Hid (fits m.data.toList x.data.toList = false) := Lib.hid (by
            rw [← Bool.not_eq_true, fits_iff]
            intro hc
            rcases hc k (by rw [size_toList]; exact hlt) with h | h
            · rw [← e1] at h; exact h63 h
            · rw [← e1, ← e2] at h; exact heq h)
          clear e1 e2 h63 heq
          go_wp2_with fail
          go_quiet (fail)
          go_wp2
          go_ret
          exact ⟨ret_bool HM.out.symm, hb.trans ((below_drewN _ _).mono hb.size)⟩
    · obtain rfl : k = m.size := by omega
      have HM : Hid (fits m.data.toList x.data.toList = true) := Lib.hid (by rw [fits_iff, size_toList]; exact hr.out)
      go_wp2
      go_ret
      exact ⟨ret_bool HM.out.symm, hb⟩
end
end Go.Proofs.Yteleehldcpjndaa
