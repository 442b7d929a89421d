/- The contract of package serial's less. Condition: the scheme lies in memory as 'SchAt' says, its table is that of an automaton; the text is of bytes of the alphabet. -/
import Derived.Test.YteleehldcpjndaaSerG
namespace Go.Proofs.Yteleehldcpjndaa
open Go Go.RowKit

section
variable {p : Nat} {A : ByteArray} {L : Nat} {chk : Bool} {M : Nat} {nx : Int × Int → Option Int} {t : Nat → Nat → Option Nat} {mask : ByteArray} {X S K Mm C MB : Nat} {w : World} {N : Nat}

/-- how many serials that match a mask are lower than a word -/
def lessOf (A mask : ByteArray) (L : Nat) (t : Nat → Nat → Option Nat) (sums : Bool) (n : Nat) (s : St) (W : List Nat) : Nat := less (cstep A mask t sums) (ways A mask L t sums) n s W

/-- the ways behind a letter -/
def wone (A mask : ByteArray) (L : Nat) (t : Nat → Nat → Option Nat) (sums : Bool) (n : Nat) (s : St) (v : Nat) : Nat := ((cstep A mask t sums s v).map (ways A mask L t sums n)).getD 0

def wsum (A mask : ByteArray) (L : Nat) (t : Nat → Nat → Option Nat) (sums : Bool) (n : Nat) (s : St) (u : Nat) : Nat := ((List.range u).map (wone A mask L t sums n s)).sum

theorem wsum_succ (A mask : ByteArray) (L : Nat) (t : Nat → Nat → Option Nat) (sums : Bool) (n : Nat) (s : St) (u : Nat) : wsum A mask L t sums n s (u + 1) = wsum A mask L t sums n s u + wone A mask L t sums n s u := by
  simp [wsum, List.range_succ]

theorem wone_le (A mask : ByteArray) (L : Nat) (t : Nat → Nat → Option Nat) (sums : Bool) (n : Nat) (s : St) (v : Nat) : wone A mask L t sums n s v ≤ capM := by
  unfold wone
  cases cstep A mask t sums s v with
  | none => exact Nat.zero_le _
  | some u => exact ways_le _ _ _ _ _ _ _

theorem lessOf_cons (A mask : ByteArray) (L : Nat) (t : Nat → Nat → Option Nat) (sums : Bool) (n : Nat) (s : St) (v : Nat) (W : List Nat) : lessOf A mask L t sums (n + 1) s (v :: W) = wsum A mask L t sums n s v + (match cstep A mask t sums s v with
  | none => 0
  | some u => lessOf A mask L t sums n u W) := by
  unfold lessOf
  rw [less]
  cases cstep A mask t sums s v <;> rfl

theorem bd0 {tot r K : Nat} (h : tot ≤ 36 * r * K) : tot ≤ (36 * r + 0) * K := h
theorem bd1 {tot r u x K : Nat} (h : tot ≤ (36 * r + u) * K) (hx : x ≤ K) : tot + x ≤ (36 * r + (u + 1)) * K := by
  have : (36 * r + (u + 1)) * K = (36 * r + u) * K + K := by rw [← Nat.add_assoc, Nat.succ_mul]
  omega
theorem bd2 {tot r u K : Nat} (h : tot ≤ (36 * r + u) * K) (hu : u ≤ 36) : tot ≤ 36 * (r + 1) * K := Nat.le_trans h (Nat.mul_le_mul_right _ (by omega))
theorem bd3 {tot r u K : Nat} (h : tot ≤ (36 * r + u) * K) : tot ≤ (36 * r + (u + 1)) * K := Nat.le_trans h (Nat.mul_le_mul_right _ (by omega))
theorem bd4 {tot r u : Nat} (h : tot ≤ (36 * r + u) * 1099511627777) (hr : r ≤ 16) (hu : u ≤ 36) : tot ≤ 672901116199524 := by
  refine Nat.le_trans h (Nat.le_trans (Nat.mul_le_mul_right _ (show 36 * r + u ≤ 612 by omega)) (by decide))

theorem cells_below {w w' : World} {g n : Nat} {W : List Nat} (h : Hid (∀ i, i < n → w.cell? ⟨g, i, none⟩ = some (.int .i64 (W.getD i 0 : Nat)))) (hb : Below w.heap.size w w') : Hid (∀ i, i < n → w'.cell? ⟨g, i, none⟩ = some (.int .i64 (W.getD i 0 : Nat))) :=
  Lib.hid fun i hi => (hb.cell (lt_of_cell (h.out i hi))).trans (h.out i hi)

theorem cells_grown {w w' : World} {g n : Nat} {W : List Nat} (h : Hid (∀ i, i < n → w.cell? ⟨g, i, none⟩ = some (.int .i64 (W.getD i 0 : Nat)))) (hc : CtrAt p A L chk M nx t mask X S K Mm C MB w) (hg : w.grownBy w' (some MB)) : Hid (∀ i, i < n → w'.cell? ⟨g, i, none⟩ = some (.int .i64 (W.getD i 0 : Nat))) := by
  obtain ⟨f, hf, _⟩ := hc.memo
  exact Lib.hid fun i hi => cell_grown hf hg (h.out i hi)

set_option maxRecDepth 100000 in
set_option maxHeartbeats 2000000 in
theorem less_any (hm : 0 < A.size) (hA36 : A.size ≤ 36) (hL : 1 ≤ L) (hL16 : L ≤ 16) (hA : ∀ c ∈ A.data.toList, c.toNat < 128) (hmask : mask.size = sz L chk) (hn : NxIs nx N A.size t) (hN : 0 < N) (h : SchAt w p A L chk M nx)
    (s : ByteArray) (hs : s.size ≤ maxLen) (hLs : L ≤ s.size) (hof : ofB (s.data.toList.take L) A.data.toList = true) :
    Calls Try.prog 50 #[.pointer (some ⟨p, 0, none⟩), .string mask, .string s] w
      fun e w' => e = .returned (.int .i64 (lessOf A mask L t (sumsB L chk mask) L (0, 0, start1 A.size L chk mask) (idxs A.data.toList (s.data.toList.take L)) : Nat)) ∧ Below w.heap.size w w' := by
  have HM := Lib.hid hmask
  clear hmask
  unfold maxLen at hs
  have hex : (s.extract 0 L).data.toList = s.data.toList.take L := by
    rw [ByteArray.data_extract, Array.toList_extract, List.extract_eq_take_drop]; simp
  have hexs : (s.extract 0 L).size = L := by
    have := congrArg List.length hex
    simp at this ⊢; omega
  have hofx : ofB (s.extract 0 L).data.toList A.data.toList = true := by rw [hex]; exact hof
  obtain ⟨W, hW⟩ : ∃ W, W = idxs A.data.toList (s.data.toList.take L) := ⟨_, rfl⟩
  have hWlen : W.length = L := by rw [hW]; simp [idxs]; omega
  have hWlt := idxs_lt hof
  have hv := vals_idxs hofx
  rw [hex, ← hW] at hv
  rw [← hW] at hWlt ⊢
  have hWlt2 : ∀ k, k < L → W.getD k 0 < A.size := by
    intro k hk
    have := hWlt (W.getD k 0) (by rw [List.getD_eq_getElem?_getD, List.getElem?_eq_getElem (by omega)]; simp)
    simpa using this
  have HX := Lib.hid hex
  have HXS := Lib.hid hexs
  have HOFX := Lib.hid hofx
  have HW := Lib.hid hW
  have HWL := Lib.hid hWlen
  have HV := Lib.hid hv
  have HWT := Lib.hid hWlt2
  clear hex hexs hofx hW hWlen hWlt hv hof hWlt2
  go_enter Try.func50, Try.ntmps50
  go_wp2_with fail
  refine (counter_any (t := t) HM.out h).mono ?_
  rintro e w1 ⟨X, S, K, Mm, C, MB, rfl, hc, hb, hMB⟩
  unfold ctrFn
  go_wp2_with fail
  refine (start_any hc.sch mask HM.out).mono ?_
  rintro e w2 ⟨rfl, rfl⟩
  have hcl := hc.sch.l
  have hct : ∀ (n a i q : Nat) (w : World), a + n = L → i < N → q ≤ A.size → CtrAt p A L chk M nx t mask X S K Mm C MB w → ∀ ai : Int, ai = a →
      Calls Try.prog 79 #[.int .i64 ai, .int .i64 i, .int .i64 q, .pointer (some ⟨X, 0, none⟩), .pointer (some ⟨S, 0, none⟩), .pointer (some ⟨K, 0, none⟩), .pointer (some ⟨Mm, 0, none⟩), .pointer (some ⟨C, 0, none⟩)] w
        fun e w' => e = .returned (.int .i64 (ways A mask L t (sumsB L chk mask) n (a, i, q) : Nat)) ∧ CtrAt p A L chk M nx t mask X S K Mm C MB w' ∧ w.grownBy w' (some MB) := by
    intro n a i q w g1 g2 g3 g4 ai e1
    subst e1
    exact count_any hm hA36 hL16 HM.out hn n a i q w g1 g2 g3 g4
  have HCT := Lib.hid hct
  clear hct
  go_wp2_with fail
  refine (values_any hc.sch _ (by rw [HXS.out]; omega) (ascii_of hA HOFX.out)).mono ?_
  rintro e w3 ⟨v, rfl, hi3, hb3⟩
  rw [HX.out, HV.out] at hi3
  obtain ⟨g, cap, rfl, hcell⟩ := hi3.pos HWL.out (by omega)
  have hc3 := hc.kept hb3
  have hb13 := hb.trans (hb3.mono hb.size)
  clear hcl
  go_wp2_with fail
  go_loopw [8, 9, 10, 36] (fun ii qq tt aa wr => ∃ (r i q tot : Nat), r ≤ L ∧ aa = .int .i64 r ∧ ii = .int .i64 i ∧ qq = .int .i64 q ∧ tt = .int .i64 tot ∧ i < N ∧ q ≤ A.size ∧ tot ≤ 36 * r * 1099511627777 ∧
      lessOf A mask L t (sumsB L chk mask) L (0, 0, start1 A.size L chk mask) W = tot + lessOf A mask L t (sumsB L chk mask) (L - r) (r, i, q) (W.drop r) ∧
      Hid (∀ i, i < L → wr.cell? ⟨g, i, none⟩ = some (.int .i64 (W.getD i 0 : Nat))) ∧ CtrAt p A L chk M nx t mask X S K Mm C MB wr ∧ Below w.heap.size w wr)
    (fun _ _ _ aa _ => L - (intOf aa).toNat)
  case atStart =>
    refine ⟨0, 0, start1 A.size L chk mask, 0, Nat.zero_le _, rfl, rfl, rfl, rfl, hN, ?_, Nat.zero_le _, by simp, hcell, hc3, hb13⟩
    unfold start1; split <;> omega
  case round =>
    obtain ⟨r, i, q, tot, hr, rfl, rfl, rfl, rfl, hi, hq, htot, hless, hcl, hcr, hbr⟩ := hrel
    have HLESS := Lib.hid hless
    have HTOT := Lib.hid htot
    clear hless htot
    by_cases hlt : r < L
    · obtain ⟨n, hn'⟩ : ∃ n, L - r = n + 1 := ⟨L - r - 1, by omega⟩
      have hrn : r + 1 + n = L := by omega
      have hcv := hcl.out r hlt
      obtain ⟨u0, hu0⟩ : ∃ u0, u0 = W.getD r 0 := ⟨_, rfl⟩
      have hu0lt : u0 < A.size := by rw [hu0]; exact HWT.out r hlt
      have hdrop : W.drop r = u0 :: W.drop (r + 1) := by
        rw [List.drop_eq_getElem_cons (by rw [HWL.out]; exact hlt), hu0, List.getD_eq_getElem?_getD, List.getElem?_eq_getElem (by rw [HWL.out]; exact hlt)]; rfl
      have hl2 := HLESS.out
      rw [hn', hdrop, lessOf_cons] at hl2
      rw [← hu0] at hcv
      have HL2 := Lib.hid hl2
      have HRN := Lib.hid hrn
      clear hu0 hdrop hl2 hn' hrn
      obtain ⟨wo, rfl⟩ : ∃ wo : World, wo = wr := ⟨_, rfl⟩
      go_wp2_with fail
      go_loopw [10, 42] (fun tt uu wi => ∃ (u tot2 : Nat), u ≤ u0 ∧ uu = .int .i64 u ∧ tt = .int .i64 tot2 ∧ tot2 ≤ (36 * r + u) * 1099511627777 ∧ tot2 = tot + wsum A mask L t (sumsB L chk mask) n (r, i, q) u ∧
          Hid (∀ i, i < L → wi.cell? ⟨g, i, none⟩ = some (.int .i64 (W.getD i 0 : Nat))) ∧ CtrAt p A L chk M nx t mask X S K Mm C MB wi ∧ Below w.heap.size w wi)
        (fun _ uu _ => u0 - (intOf uu).toNat)
      case atStart => exact ⟨0, tot, Nat.zero_le _, rfl, rfl, HTOT.out, by simp [wsum], hcl, hcr, hbr⟩
      case round =>
        obtain ⟨u, tot2, hu, rfl, rfl, htot2, hts, hcl2, hci, hbi⟩ := hrel
        have HTS := Lib.hid hts
        have HB := Lib.hid htot2
        have htb := bd4 htot2 (by omega) (by omega)
        clear hts htot2
        by_cases hlt2 : u < u0
        · have hws := wsum_succ A mask L t (sumsB L chk mask) n (r, i, q) u
          cases hcs : cstep A mask t (sumsB L chk mask) (r, i, q) u with
          | none =>
            have hw0 : wone A mask L t (sumsB L chk mask) n (r, i, q) u = 0 := by simp [wone, hcs]
            rw [hw0, Nat.add_zero] at hws
            have HWS := Lib.hid hws
            have HCS := Lib.hid hcs
            clear hcs hws hw0
            go_wp2_with fail
            refine (step_none hci.sch hn HM.out r u i q hi hlt (by omega) HCS.out).mono ?_
            rintro e w4 ⟨rfl, hb4⟩
            go_wp2
            go_roundw
            case rel => exact ⟨u + 1, tot2, by omega, by go_num, rfl, bd3 HB.out, by rw [HWS.out]; exact HTS.out, cells_below hcl2 hb4, hci.kept hb4, hbi.trans (hb4.mono hbi.size)⟩
            case measure => simp [intOf]; omega
          | some s' =>
            obtain ⟨j, q', rfl, hj, hq'⟩ := cstep_fits hn hi (by omega) hcs
            have hw0 : wone A mask L t (sumsB L chk mask) n (r, i, q) u = ways A mask L t (sumsB L chk mask) n (r + 1, j, q') := by simp [wone, hcs]
            rw [hw0] at hws
            have hwl := ways_le A mask L t (sumsB L chk mask) n (r + 1, j, q')
            have hwl' : ways A mask L t (sumsB L chk mask) n (r + 1, j, q') ≤ 1099511627777 := hwl
            have HWS := Lib.hid hws
            have HCS := Lib.hid hcs
            clear hcs hws hw0 hwl
            go_wp2_with fail
            refine (step_some hci.sch hn HM.out hm hA36 r u i q hi hlt (by omega) hq j q' HCS.out).mono ?_
            rintro e w4 ⟨rfl, hb4⟩
            go_wp2_with fail
            refine (HCT.out n (r + 1) j q' _ HRN.out hj hq' (hci.kept hb4) ((r : Int) + 1) (by omega)).mono ?_
            rintro e w5 ⟨rfl, hc5, hg5⟩
            have hcl5 := cells_grown (cells_below hcl2 hb4) (hci.kept hb4) hg5
            have hbi5 : Below w.heap.size w w5 := (hbi.trans (hb4.mono hbi.size)).grown hg5 (hbi.trans (hb4.mono hbi.size)).size (fun k hk => by cases hk; exact hMB)
            go_wp2
            go_roundw
            case rel => exact ⟨u + 1, tot2 + ways A mask L t (sumsB L chk mask) n (r + 1, j, q'), by omega, by go_num, by go_num, bd1 HB.out hwl', by rw [HWS.out, HTS.out]; omega, hcl5, hc5, hbi5⟩
            case measure => simp [intOf]; omega
        · obtain rfl : u = u0 := by omega
          cases hcs : cstep A mask t (sumsB L chk mask) (r, i, q) u with
          | none =>
            have hfin : lessOf A mask L t (sumsB L chk mask) L (0, 0, start1 A.size L chk mask) W = tot2 := by
              have := HL2.out
              rw [hcs] at this
              rw [this, HTS.out]; simp
            have HF := Lib.hid hfin
            have HCS := Lib.hid hcs
            clear hcs hfin
            go_wp2_with fail
            refine (step_none hci.sch hn HM.out r u i q hi hlt (by omega) HCS.out).mono ?_
            rintro e w4 ⟨rfl, hb4⟩
            go_wp2
            go_ret
            exact ⟨by rw [HF.out]; rfl, hbi.trans (hb4.mono hbi.size)⟩
          | some s' =>
            obtain ⟨j, q', rfl, hj, hq'⟩ := cstep_fits hn hi (by omega) hcs
            have hnext : lessOf A mask L t (sumsB L chk mask) L (0, 0, start1 A.size L chk mask) W = tot2 + lessOf A mask L t (sumsB L chk mask) (L - (r + 1)) (r + 1, j, q') (W.drop (r + 1)) := by
              have := HL2.out
              rw [hcs] at this
              have hln : L - (r + 1) = n := by have := HRN.out; omega
              rw [this, HTS.out, hln]; simp only; omega
            have HNX := Lib.hid hnext
            have HCS := Lib.hid hcs
            clear hcs hnext
            go_wp2_with fail
            refine (step_some hci.sch hn HM.out hm hA36 r u i q hi hlt (by omega) hq j q' HCS.out).mono ?_
            rintro e w4 ⟨rfl, hb4⟩
            go_wp2
            go_roundw
            case rel => exact ⟨r + 1, j, q', tot2, by omega, by go_num, rfl, rfl, rfl, hj, hq', bd2 HB.out (by omega), HNX.out, cells_below hcl2 hb4, hci.kept hb4, hbi.trans (hb4.mono hbi.size)⟩
            case measure => simp [intOf]; omega
    · obtain rfl : r = L := by omega
      have hfin : lessOf A mask r t (sumsB r chk mask) r (0, 0, start1 A.size r chk mask) W = tot := by
        rw [HLESS.out, Nat.sub_self]; simp [lessOf, less]
      have HF := Lib.hid hfin
      clear hfin
      go_wp2
      go_ret
      exact ⟨by rw [HF.out]; rfl, hbr⟩
end
end Go.Proofs.Yteleehldcpjndaa
