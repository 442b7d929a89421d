/- The contract of package serial's nth. Condition: the scheme lies in memory as 'SchAt' says, its table is that of an automaton, more than k serials match the mask, and no more than the cap. -/
import Derived.Test.YteleehldcpjndaaSerF
namespace Go.Proofs.Yteleehldcpjndaa
open Go Go.RowKit

section
variable {p : Nat} {A : ByteArray} {L : Nat} {chk : Bool} {M : Nat} {nx : Int × Int → Option Int} {t : Nat → Nat → Option Nat} {mask : ByteArray} {X S K Mm C MB : Nat} {w : World} {N : Nat}

theorem step_none (h : SchAt w p A L chk M nx) (hn : NxIs nx N A.size t) (hmask : mask.size = sz L chk) (a v i q : Nat) (hi : i < N) (ha : a < L) (hv : v < A.size) (hcs : cstep A mask t (sumsB L chk mask) (a, i, q) v = none) :
    Calls Try.prog 69 #[.pointer (some ⟨p, 0, none⟩), .string mask, .int .i64 a, .int .i64 i, .int .i64 q, .int .i64 v] w
      fun e w' => e = .returned (.tuple #[.int .i64 0, .int .i64 0, .bool false]) ∧ Below w.heap.size w w' := by
  obtain ⟨hnx, hjn⟩ := hn i v hi hv
  have hlt : a < mask.size := by rw [hmask]; unfold sz; split <;> omega
  cases htj : t i v with
  | none =>
    rw [htj] at hnx
    exact step_dead h mask a v i q hnx
  | some j =>
    rw [htj] at hnx
    simp only at hnx
    refine step_no h mask a v i j q hnx (by omega) hlt hv ?_
    simp only [cstep, htj] at hcs
    cases hl : lets1 A mask a v
    · rfl
    · rw [hl] at hcs; simp at hcs

theorem step_some (h : SchAt w p A L chk M nx) (hn : NxIs nx N A.size t) (hmask : mask.size = sz L chk) (hm : 0 < A.size) (hA36 : A.size ≤ 36) (a v i q : Nat) (hi : i < N) (ha : a < L) (hv : v < A.size) (hq : q ≤ A.size) (j q' : Nat)
    (hcs : cstep A mask t (sumsB L chk mask) (a, i, q) v = some (a + 1, j, q')) :
    Calls Try.prog 69 #[.pointer (some ⟨p, 0, none⟩), .string mask, .int .i64 a, .int .i64 i, .int .i64 q, .int .i64 v] w
      fun e w' => e = .returned (.tuple #[.int .i64 j, .int .i64 q', .bool true]) ∧ Below w.heap.size w w' := by
  obtain ⟨hnx, hjn⟩ := hn i v hi hv
  have hlt : a < mask.size := by rw [hmask]; unfold sz; split <;> omega
  cases htj : t i v with
  | none => simp [cstep, htj] at hcs
  | some j0 =>
    rw [htj] at hnx
    simp only at hnx
    simp only [cstep, htj] at hcs
    cases hl : lets1 A mask a v
    · rw [hl] at hcs; simp at hcs
    · rw [hl] at hcs
      simp only [if_true, Option.some.injEq, Prod.mk.injEq, true_and] at hcs
      obtain ⟨rfl, rfl⟩ := hcs
      exact step_yes h mask a v q i j0 hnx (by omega) hlt hv hl hm hA36 (by omega) hmask

/-- a step's new state is one of the table's, its sum fits -/
theorem cstep_fits (hn : NxIs nx N A.size t) {sums : Bool} {a i q v : Nat} (hi : i < N) (hv : v < A.size) {s : St} (hcs : cstep A mask t sums (a, i, q) v = some s) : ∃ j q', s = (a + 1, j, q') ∧ j < N ∧ q' ≤ A.size := by
  obtain ⟨_, hjn⟩ := hn i v hi hv
  simp only [cstep] at hcs
  cases htj : t i v with
  | none => rw [htj] at hcs; simp at hcs
  | some j =>
    rw [htj] at hcs
    simp only at hcs
    split at hcs
    · simp only [Option.some.injEq] at hcs
      exact ⟨j, _, hcs.symm, hjn j htj, fold1_if_le _ _ _ _⟩
    · cases hcs

/-- the serials that match a mask, as words, from a state on -/
def mpaths (A mask : ByteArray) (L : Nat) (t : Nat → Nat → Option Nat) (sums : Bool) (n : Nat) (s : St) : List (List Nat) := paths A.size (cstep A mask t sums) (cfin A mask L sums) n s

theorem ways_len (A mask : ByteArray) (L : Nat) (t : Nat → Nat → Option Nat) (sums : Bool) (n : Nat) (s : St) : ways A mask L t sums n s = min (mpaths A mask L t sums n s).length capM := cnt_eq _ _ _ _ (by decide) _ _

/-- those that begin with a letter -/
def mone (A mask : ByteArray) (L : Nat) (t : Nat → Nat → Option Nat) (sums : Bool) (n : Nat) (s : St) (v : Nat) : List (List Nat) := match cstep A mask t sums s v with
  | none => []
  | some u => (mpaths A mask L t sums n u).map (v :: ·)

/-- those that begin with a letter from u on -/
def mfrom (A mask : ByteArray) (L : Nat) (t : Nat → Nat → Option Nat) (sums : Bool) (n : Nat) (s : St) (u : Nat) : List (List Nat) := (List.range' u (A.size - u)).flatMap (mone A mask L t sums n s)

theorem mfrom_zero (A mask : ByteArray) (L : Nat) (t : Nat → Nat → Option Nat) (sums : Bool) (n : Nat) (s : St) : mfrom A mask L t sums n s 0 = mpaths A mask L t sums (n + 1) s := by
  unfold mfrom mpaths
  rw [paths, Nat.sub_zero, ← List.range_eq_range']
  congr 1
  funext v
  unfold mone mpaths
  cases cstep A mask t sums s v <;> rfl

theorem mfrom_step (A mask : ByteArray) (L : Nat) (t : Nat → Nat → Option Nat) (sums : Bool) (n : Nat) (s : St) (u : Nat) (hu : u < A.size) : mfrom A mask L t sums n s u = mone A mask L t sums n s u ++ mfrom A mask L t sums n s (u + 1) := by
  unfold mfrom
  have : A.size - u = (A.size - (u + 1)) + 1 := by omega
  rw [this, List.range'_succ, List.flatMap_cons]

theorem mfrom_end (A mask : ByteArray) (L : Nat) (t : Nat → Nat → Option Nat) (sums : Bool) (n : Nat) (s : St) : mfrom A mask L t sums n s A.size = [] := by
  simp [mfrom]

theorem mfrom_none {A mask : ByteArray} {L : Nat} {t : Nat → Nat → Option Nat} {sums : Bool} {n : Nat} {s : St} {u : Nat} (hu : u < A.size) (h : cstep A mask t sums s u = none) : mfrom A mask L t sums n s u = mfrom A mask L t sums n s (u + 1) := by
  rw [mfrom_step _ _ _ _ _ _ _ _ hu]; simp [mone, h]

theorem mfrom_hit {A mask : ByteArray} {L : Nat} {t : Nat → Nat → Option Nat} {sums : Bool} {n : Nat} {s s' : St} {u k : Nat} {T : List Nat} (hu : u < A.size) (h : cstep A mask t sums s u = some s') (hk : k < (mpaths A mask L t sums n s').length)
    (hT : (mfrom A mask L t sums n s u)[k]? = some T) : ∃ T2, (mpaths A mask L t sums n s')[k]? = some T2 ∧ T = u :: T2 := by
  rw [mfrom_step _ _ _ _ _ _ _ _ hu] at hT
  have hmo : mone A mask L t sums n s u = (mpaths A mask L t sums n s').map (u :: ·) := by simp [mone, h]
  rw [hmo, List.getElem?_append_left (by simpa using hk), List.getElem?_map, List.getElem?_eq_getElem hk] at hT
  simp only [Option.map_some, Option.some.injEq] at hT
  exact ⟨_, List.getElem?_eq_getElem hk, hT.symm⟩

theorem mfrom_miss {A mask : ByteArray} {L : Nat} {t : Nat → Nat → Option Nat} {sums : Bool} {n : Nat} {s s' : St} {u k : Nat} {T : List Nat} (hu : u < A.size) (h : cstep A mask t sums s u = some s') (hk : ¬ k < (mpaths A mask L t sums n s').length)
    (hT : (mfrom A mask L t sums n s u)[k]? = some T) : (mfrom A mask L t sums n s (u + 1))[k - (mpaths A mask L t sums n s').length]? = some T := by
  rw [mfrom_step _ _ _ _ _ _ _ _ hu] at hT
  have hmo : mone A mask L t sums n s u = (mpaths A mask L t sums n s').map (u :: ·) := by simp [mone, h]
  rw [hmo, List.getElem?_append_right (by simp; omega), List.length_map] at hT
  exact hT

theorem mfrom_le (A mask : ByteArray) (L : Nat) (t : Nat → Nat → Option Nat) (sums : Bool) (n : Nat) (s : St) (u : Nat) (hu : u ≤ A.size) : (mfrom A mask L t sums n s u).length ≤ (mpaths A mask L t sums (n + 1) s).length := by
  rw [← mfrom_zero]
  induction u with
  | zero => exact Nat.le_refl _
  | succ u ih =>
    refine Nat.le_trans ?_ (ih (by omega))
    rw [mfrom_step _ _ _ _ _ _ _ u (by omega)]
    simp

theorem ways_exact {A mask : ByteArray} {L : Nat} {t : Nat → Nat → Option Nat} {sums : Bool} {n : Nat} {s : St} (h : (mpaths A mask L t sums n s).length < capM) : ways A mask L t sums n s = (mpaths A mask L t sums n s).length := by
  rw [ways_len]; omega

theorem mpaths_sub (A mask : ByteArray) (L : Nat) (t : Nat → Nat → Option Nat) (sums : Bool) (n : Nat) (s u : St) (v : Nat) (hv : v < A.size) (h : cstep A mask t sums s v = some u) : (mpaths A mask L t sums n u).length ≤ (mpaths A mask L t sums (n + 1) s).length :=
  paths_sub _ _ _ n s u v hv h

theorem txt_snoc (A : List UInt8) (p : List Nat) (v : Nat) : txt A (p ++ [v]) = txt A p ++ [A.getD v 0] := by simp [txt]
theorem txt_len (A : List UInt8) (p : List Nat) : (txt A p).length = p.length := by simp [txt]

theorem of_txt {A : List UInt8} {p : List Nat} (h : ∀ v ∈ p, v < A.length) : ofB (txt A p) A = true := by
  unfold ofB txt
  rw [List.all_eq_true]
  intro c hc
  simp only [List.mem_map] at hc
  obtain ⟨v, hv, rfl⟩ := hc
  have := h v hv
  rw [List.getD_eq_getElem?_getD, List.getElem?_eq_getElem this]
  simp

theorem app_data (a b : ByteArray) : (a ++ b).data.toList = a.data.toList ++ b.data.toList := by simp

theorem size_toList (b : ByteArray) : b.data.toList.length = b.size := by simp

set_option maxRecDepth 100000 in
set_option maxHeartbeats 2000000 in
theorem nth_any (hm : 0 < A.size) (hA36 : A.size ≤ 36) (hL : 1 ≤ L) (hL16 : L ≤ 16) (hA : ∀ c ∈ A.data.toList, c.toNat < 128) (hmask : mask.size = sz L chk) (hn : NxIs nx N A.size t) (hN : 0 < N) (h : SchAt w p A L chk M nx) (k : Nat) (T : List Nat)
    (hk : (mpaths A mask L t (sumsB L chk mask) L (0, 0, start1 A.size L chk mask))[k]? = some T) (hcap : (mpaths A mask L t (sumsB L chk mask) L (0, 0, start1 A.size L chk mask)).length < capM) :
    Calls Try.prog 47 #[.pointer (some ⟨p, 0, none⟩), .string mask, .int .i64 k] w
      fun e w' => e = .returned (.string ⟨(serialOf A.data.toList chk (txt A.data.toList T)).toArray⟩) ∧ Below w.heap.size w w' := by
  have HM := Lib.hid hmask
  clear hmask
  have HK := Lib.hid hk
  have HCAP := Lib.hid hcap
  clear hk hcap
  go_enter Try.func47, Try.ntmps47
  go_wp2_with fail
  refine (counter_any (t := t) HM.out h).mono ?_
  rintro e w1 ⟨X, S, K, Mm, C, MB, rfl, hc, hb, hMB⟩
  unfold ctrFn
  go_wp2_with fail
  refine (start_any hc.sch mask HM.out).mono ?_
  rintro e w2 ⟨rfl, rfl⟩
  have hcl := hc.sch.l
  go_wp2_with fail
  clear hcl
  have hct : ∀ (n a i q : Nat) (w : World), a + n = L → i < N → q ≤ A.size → CtrAt p A L chk M nx t mask X S K Mm C MB w → ∀ ai : Int, ai = a →
      Calls Try.prog 79 #[.int .i64 ai, .int .i64 i, .int .i64 q, .pointer (some ⟨X, 0, none⟩), .pointer (some ⟨S, 0, none⟩), .pointer (some ⟨K, 0, none⟩), .pointer (some ⟨Mm, 0, none⟩), .pointer (some ⟨C, 0, none⟩)] w
        fun e w' => e = .returned (.int .i64 (ways A mask L t (sumsB L chk mask) n (a, i, q) : Nat)) ∧ CtrAt p A L chk M nx t mask X S K Mm C MB w' ∧ w.grownBy w' (some MB) := by
    intro n a i q w g1 g2 g3 g4 ai e1
    subst e1
    exact count_any hm hA36 hL16 HM.out hn n a i q w g1 g2 g3 g4
  have HCT := Lib.hid hct
  clear hct
  go_loopw [2, 8, 9, 10, 28] (fun kk ii qq bb aa wr => ∃ (r k' i q : Nat) (b : ByteArray) (pre : List Nat), r ≤ L ∧ aa = .int .i64 r ∧ kk = .int .i64 k' ∧ ii = .int .i64 i ∧ qq = .int .i64 q ∧ bb = .string b ∧
      b.data.toList = txt A.data.toList pre ∧ pre.length = r ∧ (∀ v ∈ pre, v < A.size) ∧ i < N ∧ q ≤ A.size ∧ (mpaths A mask L t (sumsB L chk mask) (L - r) (r, i, q)).length < capM ∧
      (∃ T', (mpaths A mask L t (sumsB L chk mask) (L - r) (r, i, q))[k']? = some T' ∧ T = pre ++ T') ∧ CtrAt p A L chk M nx t mask X S K Mm C MB wr ∧ Below w.heap.size w wr)
    (fun _ _ _ _ aa _ => L - (intOf aa).toNat)
  case atStart =>
    refine ⟨0, k, 0, start1 A.size L chk mask, ⟨#[]⟩, [], Nat.zero_le _, rfl, rfl, rfl, rfl, rfl, rfl, rfl, by simp, hN, ?_, HCAP.out, ⟨T, HK.out, rfl⟩, hc, hb⟩
    unfold start1; split <;> omega
  case round =>
    obtain ⟨r, k', i, q, b, pre, hr, rfl, rfl, rfl, rfl, rfl, hbt, hpl, hpm, hi, hq, hlen, ⟨T', hT', hTT⟩, hcr, hbr⟩ := hrel
    have h1 := hcr.sch.a
    have h2 := hcr.sch.l
    have HBT := Lib.hid hbt
    have HPL := Lib.hid hpl
    have HLEN := Lib.hid hlen
    have HT' := Lib.hid hT'
    have HTT := Lib.hid hTT
    have hbs : b.size ≤ 16 := by
      have := congrArg List.length hbt
      rw [txt_len, size_toList] at this; omega
    clear hbt hpl hlen hT' hTT
    by_cases hlt : r < L
    · obtain ⟨n, hn'⟩ : ∃ n, L - r = n + 1 := ⟨L - r - 1, by omega⟩
      have hT2 := HT'.out
      have hlen2 := HLEN.out
      rw [hn', ← mfrom_zero] at hT2
      rw [hn'] at hlen2
      have HT2 := Lib.hid hT2
      have HLEN2 := Lib.hid hlen2
      have HN := Lib.hid hn'
      clear hT2 hlen2 hn'
      obtain ⟨wo, rfl⟩ : ∃ wo : World, wo = wr := ⟨_, rfl⟩
      go_wp2_with fail
      go_loopw [2, 8, 9, 10, 37] (fun kk ii qq bb uu wi => ∃ (u k2 : Nat), u ≤ A.size ∧ uu = .int .i64 u ∧ kk = .int .i64 k2 ∧ ii = .int .i64 i ∧ qq = .int .i64 q ∧ bb = .string b ∧
          (mfrom A mask L t (sumsB L chk mask) n (r, i, q) u)[k2]? = some T' ∧ CtrAt p A L chk M nx t mask X S K Mm C MB wi ∧ Below w.heap.size w wi)
        (fun _ _ _ _ uu _ => A.size - (intOf uu).toNat)
      case atStart => exact ⟨0, k', Nat.zero_le _, rfl, rfl, rfl, rfl, rfl, HT2.out, hcr, hbr⟩
      case round =>
        obtain ⟨u, k2, hu, rfl, rfl, rfl, rfl, rfl, hk2, hci, hbi⟩ := hrel
        have HK2 := Lib.hid hk2
        clear hk2
        by_cases hlt2 : u < A.size
        · cases hcs : cstep A mask t (sumsB L chk mask) (r, i, q) u with
          | none =>
            have HCS := Lib.hid hcs
            clear hcs
            go_wp2_with fail
            refine (step_none hci.sch hn HM.out r u i q hi hlt hlt2 HCS.out).mono ?_
            rintro e w3 ⟨rfl, hb3⟩
            go_wp2
            go_roundw
            case rel => exact ⟨u + 1, k2, by omega, by go_num, rfl, rfl, rfl, rfl, by rw [← mfrom_none hlt2 HCS.out]; exact HK2.out, hci.kept hb3, hbi.trans (hb3.mono hbi.size)⟩
            case measure => simp [intOf]; omega
          | some s' =>
            obtain ⟨j, q', rfl, hj, hq'⟩ := cstep_fits hn hi hlt2 hcs
            have hsub := mpaths_sub A mask L t (sumsB L chk mask) n (r, i, q) (r + 1, j, q') u hlt2 hcs
            have hl2 : (mpaths A mask L t (sumsB L chk mask) n (r + 1, j, q')).length < capM := Nat.lt_of_le_of_lt hsub HLEN2.out
            have hwe := ways_exact hl2
            have HWE := Lib.hid hwe
            have HL2 := Lib.hid hl2
            have HCS := Lib.hid hcs
            have hrn : r + 1 + n = L := by have := HN.out; omega
            have hwl := ways_le A mask L t (sumsB L chk mask) n (r + 1, j, q')
            have hwl' : ((ways A mask L t (sumsB L chk mask) n (r + 1, j, q') : Nat) : Int) ≤ 1099511627777 := by unfold capM at hwl; omega
            clear hcs hsub hl2 hwe hwl
            have HRN := Lib.hid hrn
            clear hrn
            by_cases hlt3 : k2 < ways A mask L t (sumsB L chk mask) n (r + 1, j, q')
            · go_wp2_with fail
              refine (step_some hci.sch hn HM.out hm hA36 r u i q hi hlt hlt2 hq j q' HCS.out).mono ?_
              rintro e w3 ⟨rfl, hb3⟩
              go_wp2_with fail
              refine (HCT.out n (r + 1) j q' _ HRN.out hj hq' (hci.kept hb3) ((r : Int) + 1) (by omega)).mono ?_
              rintro e w4 ⟨rfl, hc4, hg4⟩
              have h1 := hc4.sch.a
              go_wp2
              go_roundw
              case rel =>
                obtain ⟨T2, hT2, hTu⟩ := mfrom_hit hlt2 HCS.out (by rw [← HWE.out]; exact hlt3) HK2.out
                have hln : L - (r + 1) = n := by have := HRN.out; omega
                refine ⟨r + 1, k2, j, q', _, pre ++ [u], by omega, by go_num, rfl, rfl, rfl, rfl, ?_, by simp [HPL.out], ?_, hj, hq', by rw [hln]; exact HL2.out, ⟨T2, by rw [hln]; exact hT2, ?_⟩, hc4, ?_⟩
                · rw [app_data, extract_one A u hlt2, HBT.out, txt_snoc]
                · intro v hv
                  rcases List.mem_append.1 hv with hv | hv
                  · exact hpm v hv
                  · simp at hv; omega
                · rw [HTT.out, hTu]; simp
                · exact (hbi.trans (hb3.mono hbi.size)).grown hg4 (hbi.trans (hb3.mono hbi.size)).size (fun k hk => by cases hk; exact hMB)
              case measure => simp [intOf]; omega
            · go_wp2_with fail
              refine (step_some hci.sch hn HM.out hm hA36 r u i q hi hlt hlt2 hq j q' HCS.out).mono ?_
              rintro e w3 ⟨rfl, hb3⟩
              go_wp2_with fail
              refine (HCT.out n (r + 1) j q' _ HRN.out hj hq' (hci.kept hb3) ((r : Int) + 1) (by omega)).mono ?_
              rintro e w4 ⟨rfl, hc4, hg4⟩
              have hkb : k2 < capM := by
                have h5 := HK2.out
                obtain ⟨h6, _⟩ := List.getElem?_eq_some_iff.1 h5
                have h7 := HLEN2.out
                have h8 : (mfrom A mask L t (sumsB L chk mask) n (r, i, q) u).length ≤ (mpaths A mask L t (sumsB L chk mask) (n + 1) (r, i, q)).length := mfrom_le _ _ _ _ _ _ _ _ hu
                omega
              have hkb' : (k2 : Int) ≤ 1099511627777 := by unfold capM at hkb; omega
              go_wp2
              go_roundw
              case rel =>
                have hk3 := mfrom_miss hlt2 HCS.out (by rw [← HWE.out]; exact hlt3) HK2.out
                refine ⟨u + 1, k2 - ways A mask L t (sumsB L chk mask) n (r + 1, j, q'), by omega, by go_num, by congr 1; omega, rfl, rfl, rfl, by rw [HWE.out]; exact hk3, hc4, ?_⟩
                exact (hbi.trans (hb3.mono hbi.size)).grown hg4 (hbi.trans (hb3.mono hbi.size)).size (fun k hk => by cases hk; exact hMB)
              case measure => simp [intOf]; omega
        · exfalso
          obtain rfl : u = A.size := by omega
          have h5 := HK2.out
          rw [mfrom_end] at h5
          simp at h5
    · obtain rfl : r = L := by omega
      have hT3 := HT'.out
      have hfin : T' = [] := by
        rw [Nat.sub_self] at hT3
        obtain ⟨h6, h7⟩ := List.getElem?_eq_some_iff.1 hT3
        have := paths_len _ _ _ 0 _ _ (h7 ▸ List.getElem_mem h6)
        exact List.length_eq_zero_iff.1 this
      have hTp : T = pre := by rw [HTT.out, hfin]; simp
      have hbl : b.size = r := by
        have := congrArg List.length HBT.out
        rw [txt_len, size_toList, HPL.out] at this; exact this
      have hof : ofB b.data.toList A.data.toList = true := by
        rw [HBT.out]; exact of_txt (fun v hv => by simpa using hpm v hv)
      have HOF := Lib.hid hof
      have HBL := Lib.hid hbl
      have HTP := Lib.hid hTp
      clear hof hbl hTp hfin hT3
      go_wp2_with fail
      refine (complete_any hcr.sch hm hA36 b (by omega) (by rw [HBL.out]; omega) hA HOF.out).mono ?_
      rintro e w5 ⟨rfl, hb5⟩
      go_wp2
      go_ret
      refine ⟨?_, hbr.trans (hb5.mono hbr.size)⟩
      rw [HTP.out, ← HBT.out]; rfl
end
end Go.Proofs.Yteleehldcpjndaa
