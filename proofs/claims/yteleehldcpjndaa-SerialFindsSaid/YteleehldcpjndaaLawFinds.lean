/- SerialFinds returns true. Condition: the scheme's parts are in memory. -/
import Derived.Test.YteleehldcpjndaaLawNumbers
import Derived.Test.YteleehldcpjndaaRefL
import Derived.Test.YteleehldcpjndaaRefP
import Derived.Deep.RegionHeld3
import Derived.IntWalk
namespace Go.Proofs.Yteleehldcpjndaa
open Go Go.RowKit

theorem filter_len_lt {α : Type} (p q : α → Bool) : ∀ (l : List α) (T : α), (∀ x, p x = true → q x = true) → T ∈ l → q T = true → p T = false → (l.filter p).length < (l.filter q).length
  | [], _, _, h, _, _ => by simp at h
  | a :: l, T, hpq, hm, hq, hp => by
    have hle : ∀ r : List α, (r.filter p).length ≤ (r.filter q).length := by
      intro r
      induction r with
      | nil => simp
      | cons b r ih =>
        rw [List.filter_cons, List.filter_cons]
        cases hb : p b
        · simp only [Bool.false_eq_true, if_false]
          split
          · rw [List.length_cons]; omega
          · exact ih
        · rw [hpq b hb]; simp only [if_true, List.length_cons]; omega
    rw [List.filter_cons, List.filter_cons]
    rcases List.mem_cons.1 hm with rfl | hm2
    · rw [hq, hp]
      simp only [Bool.false_eq_true, if_false, if_true, List.length_cons]
      have := hle l; omega
    · have ih := filter_len_lt p q l T hpq hm2 hq hp
      cases hb : p a
      · simp only [Bool.false_eq_true, if_false]
        split
        · rw [List.length_cons]; omega
        · exact ih
      · rw [hpq a hb]; simp only [if_true, List.length_cons]; omega

section
variable {s : Sch}

theorem word_ser (O : s.Ok) {T : List Nat} (h : T ∈ s.bods) : s.word (s.ser T) = T := by
  obtain ⟨_, h2, _⟩ := bods_len O h
  unfold Sch.word
  rw [ser_take O h, idxs_txt O h2]

theorem nm_lt (O : s.Ok) {T U : List Nat} (hT : T ∈ s.bods) (hU : U ∈ s.bods) (h : wlt T U = true) : s.nm (s.ser T) < s.nm (s.ser U) := by
  rw [Sch.nm_ok (ser_err O hT), Sch.nm_ok (ser_err O hU), word_ser O hT, word_ser O hU]
  exact filter_len_lt _ _ _ T (fun x hx => wlt_trans _ _ _ hx h) hT h (wlt_irrefl T)

/-- the number of the serial before -/
def Sch.lastn (s : Sch) (x : Bytes) : Nat → Int
  | 0 => -1
  | i + 1 => (s.nm (s.ser ((s.nearT x).getD i [])) : Nat)

theorem near_mem {x : Bytes} {i : Nat} (h : i < (s.nearT x).length) : (s.nearT x).getD i [] ∈ s.bods ∧ apartN (s.ser ((s.nearT x).getD i [])) x = 1 := by
  have h1 : (s.nearT x).getD i [] ∈ s.nearT x := by
    rw [List.getD_eq_getElem?_getD, List.getElem?_eq_getElem h]; exact List.getElem_mem h
  have h2 := List.mem_filter.1 h1
  exact ⟨h2.1, of_decide_eq_true h2.2⟩

theorem lastn_lt (O : s.Ok) {x : Bytes} {i : Nat} (h : i < (s.nearT x).length) : s.lastn x i < (s.nm (s.ser ((s.nearT x).getD i [])) : Nat) := by
  match i, h with
  | 0, _ => simp only [Sch.lastn]; omega
  | i + 1, h =>
    simp only [Sch.lastn]
    have h1 : wlt ((s.nearT x).getD i []) ((s.nearT x).getD (i + 1) []) = true := by
      have hp : (s.nearT x).Pairwise fun a b => wlt a b = true := (bodies_sorted s.A.data.toList s.B s.L.toNat).filter _
      have := List.pairwise_iff_getElem.1 hp i (i + 1) (by omega) h (by omega)
      rw [List.getD_eq_getElem?_getD, List.getElem?_eq_getElem (by omega), List.getD_eq_getElem?_getD, List.getElem?_eq_getElem h]
      exact this
    have := nm_lt O (near_mem (show i < (s.nearT x).length by omega)).1 (near_mem h).1 h1
    omega

theorem npart_near (O : s.Ok) {x : Bytes} (hsyn : s.syn x = true) : (s.npart x x.length 0).length = (s.nearT x).length := by
  have h1 := near_sorted O hsyn ((s.npart x x.length 0).attach.map fun u => ⟨u.1, near_str O hsyn u.2⟩) (by rw [List.map_map]; exact List.attach_map_subtype_val _)
  have h2 := congrArg List.length h1
  rw [List.length_map, List.length_mergeSort, List.length_map, List.length_attach, List.length_map] at h2
  exact h2

theorem chg_ne {x : Bytes} {i c : Nat} (hi : i < x.length) : chg s.A.data.toList x i c ≠ x ↔ s.A.data.toList.getD c 0 ≠ x.getD i 0 := by
  constructor
  · intro h hc
    apply h
    apply bytes_ext (chg_len _ _ _ _ hi)
    intro j hj
    rw [chg_len _ _ _ _ hi] at hj
    rw [chg_getD _ _ _ _ _ hi]
    split
    · rename_i e; rw [hc, e]
    · rfl
  · intro h hc
    apply h
    have := chg_getD s.A.data.toList x i c i hi
    rw [hc, if_pos rfl] at this
    exact this.symm

variable {w : World} {a : Option Addr} {cap : Nat}

set_option maxRecDepth 100000 in
set_option maxHeartbeats 4000000 in
theorem finds_law (h : s.In w a) (x : ByteArray) (hx : x.size ≤ maxLen) :
    Calls Try.prog 13 #[s.val a cap, .string x] w fun e w' => e = .returned (.bool true) ∧ Below w.heap.size w w' := by
  have hc1 := Ctx.start' (cap := cap) h
  have HX := Lib.hid hx
  unfold maxLen at hx
  clear h
  unfold Sch.val
  go_enter Try.func13, Try.ntmps13
  go_wp2_with fail
  change Calls _ _ _ (boxW s a cap w) _
  generalize boxW s a cap w = w1 at *
  refine (few_any (cap := cap) hc1.in_).mono ?_
  rintro e w2 ⟨b, rfl, hb2⟩
  have hc2 := hc1.next hb2
  clear hc1 hb2
  have hearly : b = false ∨ (b = true ∧ 100 < x.size) ∨ (b = true ∧ x.size ≤ 100) := by cases b <;> simp; omega
  rcases hearly with rfl | ⟨rfl, h100⟩ | ⟨rfl, h100⟩
  case inr.inr =>
    have c0 := hc2.c0
    have c1 := hc2.c1
    have c2 := hc2.c2
    have c3 := hc2.c3
    have hcase : (∃ er : Nat, er ≠ 0 ∧ Hid (Calls Try.prog 41 #[s.val a cap, .string x] w2 fun e w' => e = .returned (.tuple #[.slice none 0 0, .int .i64 (er : Nat)]) ∧ Below w2.heap.size w2 w')) ∨ (s.err = 0 ∧ s.syn x.data.toList = true) := by
      by_cases he : s.err = 0
      · cases hsyn : s.syn x.data.toList
        · exact .inl ⟨4, by decide, Lib.hid (near_no (cap := cap) x HX.out hc2.in_ he hsyn)⟩
        · exact .inr ⟨he, rfl⟩
      · exact .inl ⟨s.err, he, Lib.hid (near_err (cap := cap) x hc2.in_ he)⟩
    rcases hcase with ⟨er, hne, HN⟩ | ⟨he, hsyn⟩
    · have hd : ((er : Int) != 0) = true := by rw [bne_iff_ne]; omega
      unfold Sch.val at HN
      go_wp2_with fail
      refine HN.out.mono ?_
      rintro e w3 ⟨rfl, hb3⟩
      have hc3 := hc2.next hb3
      clear hc2 hb3 c0 c1 c2 c3 HN
      go_wp2_with fail
      refine awake_any.mono ?_
      rintro e w4 ⟨rfl, hb4⟩
      have hc4 := hc3.next hb4
      go_wp2
      go_ret
      exact ⟨rfl, hc4.below⟩
    · have O := Sch.ok_of he
      have HE := Lib.hid he
      have HSY := Lib.hid hsyn
      have ha36 := O.a36
      have hl16 := O.l16
      have HXS : Hid (x.size = sz s.L.toNat s.chk) := Lib.hid (by rw [← size_toList]; exact (syn_iff.1 hsyn).1)
      have hz17 : sz s.L.toNat s.chk ≤ 17 := by unfold sz; split <;> omega
      have hx17 : x.size ≤ 17 := by rw [HXS.out]; exact hz17
      have HNL := Lib.hid (npart_len (s := s) x.data.toList)
      have hnf : (s.nearT x.data.toList).length ≤ 1000 := by
        rw [← npart_near O hsyn, size_toList]
        have h1 := HNL.out x.size 0
        have h2 : x.size * s.A.size ≤ 17 * 36 := Nat.mul_le_mul hx17 ha36
        omega
      clear he hsyn
      go_wp2_with fail
      refine (near_ok (cap := cap) O HE.out hc2.in_ x HSY.out).mono ?_
      rintro e w6 ⟨v, rfl, hb6, al, cl, rfl, hst6⟩
      have hc6 := hc2.next hb6
      clear hc2 hb6 c0 c1 c2 c3
      have HLT := Lib.hid (fun (i : Nat) (h : i < (s.nearT x.data.toList).length) => lastn_lt O h)
      have HMM := Lib.hid (fun (i : Nat) (h : i < (s.nearT x.data.toList).length) => near_mem h)
      have HNP : Hid ((s.npart x.data.toList x.size 0).length = (s.nearT x.data.toList).length) := Lib.hid (by rw [← npart_near O HSY.out, size_toList])
      go_wp2_with fail
      go_loopw [7, 9] (fun vl vi wr => ∃ i : Nat, i ≤ (s.nearT x.data.toList).length ∧ vi = .int .i64 i ∧ vl = .int .i64 (s.lastn x.data.toList i) ∧ Below w6.heap.size w6 wr)
        (fun _ vi _ => (s.nearT x.data.toList).length - (intOf vi).toNat)
      case atStart => exact ⟨0, Nat.zero_le _, rfl, rfl, Below.refl _ _⟩
      case round =>
        obtain ⟨i, hi, rfl, rfl, hbel⟩ := hrel
        obtain ⟨wz, rfl⟩ : ∃ wz : World, wz = wr := ⟨_, rfl⟩
        by_cases hlt : i < (s.nearT x.data.toList).length
        · obtain ⟨bb, off, ha, hcell⟩ := (hst6.below hbel) (by rw [List.length_map]; omega)
          have hce := hcell.out i (by rw [List.length_map]; exact hlt)
          obtain ⟨T, hTe⟩ : ∃ T, T = (s.nearT x.data.toList).getD i [] := ⟨_, rfl⟩
          have hgd : ((s.nearT x.data.toList).map fun T => mkB (s.ser T)).getD i ⟨#[]⟩ = mkB (s.ser T) := by
            rw [hTe, List.getD_eq_getElem?_getD, List.getElem?_map, List.getD_eq_getElem?_getD, List.getElem?_eq_getElem hlt]; rfl
          rw [hgd] at hce
          have hmm := HMM.out i hlt
          have hla := HLT.out i hlt
          have hnext : s.lastn x.data.toList (i + 1) = (s.nm (s.ser ((s.nearT x.data.toList).getD i [])) : Nat) := rfl
          rw [← hTe] at hmm hla hnext
          have hsl : (mkB (s.ser T)).size = sz s.L.toNat s.chk := by rw [← size_toList, mkB_data, ser_len O hmm.1]
          have HER := Lib.hid (ser_err O hmm.1)
          have HAP := Lib.hid hmm.2
          have HNX := Lib.hid hnext
          obtain ⟨st, hst2⟩ : ∃ st, st = mkB (s.ser T) := ⟨_, rfl⟩
          rw [← hst2] at hce hsl
          have HSD : Hid (st.data.toList = s.ser T) := Lib.hid (by rw [hst2, mkB_data])
          have hxs : st.size ≤ x.size := by rw [hsl, HXS.out]; exact Nat.le_refl _
          have HSM : Hid (st.size ≤ maxLen) := Lib.hid (by rw [hsl]; unfold maxLen; omega)
          have hcz := hc6.next hbel
          have c0 := hcz.c0
          have c1 := hcz.c1
          have c2 := hcz.c2
          have c3 := hcz.c3
          generalize s.lastn x.data.toList i = la at *
          clear hTe hgd hmm hst2 hsl hcell hnext
          subst ha
          have hcall : ∀ wq : World, s.In wq a → Calls Try.prog 23 #[s.val a cap, .string st] wq (fun e w' => e = .returned (.tuple #[.int .i64 (s.nm (s.ser T) : Nat), .int .i64 0]) ∧ Below wq.heap.size wq w') := by
            intro wq hin
            have := number_nm (cap := cap) st HSM.out hin HE.out
            rw [HSD.out, HER.out] at this
            exact this
          unfold Sch.val at hcall
          have HCALL := Lib.hid hcall
          clear hcall
          generalize s.nm (s.ser T) = nn at *
          have hi0' : (0 : Int) ≤ (i : Int) := Int.natCast_nonneg _
          have hiN : (i : Int) < ((s.nearT x.data.toList).length : Int) := by omega
          have hbb := World.block_lt_of_cell? wz _ hce
          go_wp2_with fail
          go_region_held3 (fun y => y.cell? ⟨w.heap.size, 0, none⟩ = some (.string s.A) ∧ y.cell? ⟨w.heap.size, 1, none⟩ = some (.int .i64 s.L) ∧ y.cell? ⟨w.heap.size, 2, none⟩ = some (.slice a s.bs.length cap) ∧ y.cell? ⟨w.heap.size, 3, none⟩ = some (.bool s.chk) ∧ y.cell? ⟨bb, off + i, none⟩ = some (.string st))
            (first
              | exact ⟨hc7.c0, hc7.c1, hc7.c2, hc7.c3, hce7⟩
              | exact ⟨c0, c1, c2, c3, hce⟩)
            ((go_at_call 23
              refine (HCALL.out _ (hcz.in_.below (Below.refl _ wz).drew)).mono ?_
              rintro e w7 ⟨rfl, hb7⟩
              have hb7' := (Below.refl _ wz).drew.trans hb7
              have hc7 := hcz.next hb7'
              have hce7 := (hb7'.cell (p := ⟨bb, off + i, none⟩) hbb).trans hce))
          clear c0 c1 c2 c3 hce hbb hi0' hiN HCALL
          have hbel7 := hbel.trans (hb7'.mono hbel.size)
          go_wp2_with fail
          refine (apart_ref st x _ hxs HX.out).mono ?_
          rintro e w8 ⟨rfl, hb8⟩
          rw [HSD.out, HAP.out]
          have hbel8 := hbel7.trans (hb8.mono hbel7.size)
          clear hbel hbel7 hb8 hb7 hb7' hc7 hce7
          go_wp2_with fail
          go_roundw
          case rel => exact ⟨i + 1, by omega, by go_num, by rw [HNX.out], hbel8⟩
          case measure => simp [intOf]; omega
        · obtain rfl : i = (s.nearT x.data.toList).length := by omega
          have hc8 := hc6.next hbel
          have c0 := hc8.c0
          clear hc6 hst6 HLT HMM
          go_wp2_with fail
          go_loopw [8, 12] (fun vf vi wr => ∃ i : Nat, i ≤ x.size ∧ vi = .int .i64 i ∧ vf = .int .i64 ((s.npart x.data.toList i 0).length : Nat) ∧ Ctx s a cap w w.heap.size wr)
            (fun _ vi _ => x.size - (intOf vi).toNat)
          case atStart => exact ⟨0, Nat.zero_le _, rfl, rfl, hc8⟩
          case round =>
            clear hc8 c0
            obtain ⟨i, hi, rfl, rfl, hcr⟩ := hrel
            obtain ⟨wo, rfl⟩ : ∃ wo : World, wo = wr := ⟨_, rfl⟩
            by_cases hlt : i < x.size
            · have c0 := hcr.c0
              go_wp2_with fail
              clear c0
              go_loopw [8, 13] (fun vf vc wr => ∃ c : Nat, c ≤ s.A.size ∧ vc = .int .i64 c ∧ vf = .int .i64 ((s.npart x.data.toList i c).length : Nat) ∧ Ctx s a cap w w.heap.size wr)
                (fun _ vc _ => s.A.size - (intOf vc).toNat)
              case atStart => exact ⟨0, Nat.zero_le _, rfl, rfl, hcr⟩
              case round =>
                clear hcr
                obtain ⟨c, hc, rfl, rfl, hcr⟩ := hrel
                obtain ⟨wi, rfl⟩ : ∃ wi : World, wi = wr := ⟨_, rfl⟩
                by_cases hltc : c < s.A.size
                · obtain ⟨oth, hoe⟩ : ∃ oth, oth = x.extract 0 i ++ s.A.extract c (c + 1) ++ x.extract (i + 1) x.size := ⟨_, rfl⟩
                  have hod : oth.data.toList = chg s.A.data.toList x.data.toList i c := by
                    rw [hoe, app_data, app_data, extract_one s.A c hltc, Lib.extract_to_end, Lib.extract_data]
                    unfold chg
                    simp
                  have HOM : Hid (oth.size ≤ maxLen) := Lib.hid (by rw [hoe]; unfold maxLen; simp; omega)
                  have hsum1 : (x.extract 0 i).size + (s.A.extract c (c + 1)).size ≤ 9223372036854775807 := by simp; omega
                  have hA1 : ∀ wq : World, (Op.stringOp .add (x.extract 0 i) (s.A.extract c (c + 1))).run Try.prog wq = .ok (.string (x.extract 0 i ++ s.A.extract c (c + 1))) wq := fun wq => run_string_add_sum wq _ _ hsum1
                  have hsum2 : (x.extract 0 i ++ s.A.extract c (c + 1)).size + (x.extract (i + 1) x.size).size ≤ 9223372036854775807 := by simp; omega
                  have hA2 : ∀ wq : World, (Op.stringOp .add (x.extract 0 i ++ s.A.extract c (c + 1)) (x.extract (i + 1) x.size)).run Try.prog wq = .ok (.string oth) wq := by
                    intro wq; rw [hoe]; exact run_string_add_sum wq _ _ hsum2
                  have hbound : (s.npart x.data.toList i c).length ≤ 1000 := by
                    have h1 := HNL.out i c
                    have h2 : i * s.A.size ≤ 17 * 36 := Nat.mul_le_mul (by omega) ha36
                    omega
                  have hcall : ∀ wq : World, s.In wq a → Calls Try.prog 23 #[s.val a cap, .string oth] wq (fun e w' => e = .returned (.tuple #[.int .i64 (s.nm oth.data.toList : Nat), .int .i64 (s.serr oth.data.toList : Nat)]) ∧ Below wq.heap.size wq w') := fun wq hin => number_nm (cap := cap) oth HOM.out hin HE.out
                  unfold Sch.val at hcall
                  have HCALL := Lib.hid hcall
                  have HGOOD : Hid (∀ b : Bool, s.good x.data.toList (chg s.A.data.toList x.data.toList i c) = b → (s.npart x.data.toList i (c + 1)).length = (s.npart x.data.toList i c).length + if b then 1 else 0) := Lib.hid (by
                    intro b hb
                    cases b
                    · rw [npart_no hb]; rfl
                    · rw [npart_yes hb]; simp)
                  have HOD := Lib.hid hod
                  have e1 : s.A[c] = s.A.data.toList.getD c 0 := by rw [bt_get hltc]; rfl
                  have e2 : x[i] = x.data.toList.getD i 0 := by rw [bt_get hlt]; rfl
                  have HE1 := Lib.hid e1
                  have HE2 := Lib.hid e2
                  have HCN := Lib.hid (chg_ne (s := s) (x := x.data.toList) (i := i) (c := c) (by rw [size_toList]; exact hlt))
                  have c0 := hcr.c0
                  have c1 := hcr.c1
                  have c2 := hcr.c2
                  have c3 := hcr.c3
                  clear hoe hod hsum1 hsum2 hcall e1 e2
                  have hp0 : (0 : Int) ≤ (i : Int) := Int.natCast_nonneg _
                  have hp1 : (i : Int) ≤ (x.size : Int) := by omega
                  have hp2 : (i : Int) + 1 ≤ (x.size : Int) := by omega
                  have hp3 : (0 : Int) ≤ (i : Int) + 1 := by omega
                  have hv0 : (0 : Int) ≤ (c : Int) := Int.natCast_nonneg _
                  have hv1 : (c : Int) + 1 ≤ (s.A.size : Int) := by omega
                  have hv2 : (c : Int) ≤ (c : Int) + 1 := by omega
                  have hv3 : (0 : Int) ≤ (c : Int) + 1 := by omega
                  have hpw : IntKind.i64.wrap ((i : Int) + 1) = (i : Int) + 1 := IntWalk.i64_in _ (by omega)
                  have hvw : IntKind.i64.wrap ((c : Int) + 1) = (c : Int) + 1 := IntWalk.i64_in _ (by omega)
                  have hp4 : ((i : Int) + 1).toNat = i + 1 := by omega
                  have hv4 : ((c : Int) + 1).toNat = c + 1 := by omega
                  go_wp2_with fail
                  go_region_held3 (fun y => y.cell? ⟨w.heap.size, 0, none⟩ = some (.string s.A) ∧ y.cell? ⟨w.heap.size, 1, none⟩ = some (.int .i64 s.L) ∧ y.cell? ⟨w.heap.size, 2, none⟩ = some (.slice a s.bs.length cap) ∧ y.cell? ⟨w.heap.size, 3, none⟩ = some (.bool s.chk))
                    (first
                      | exact ⟨hc7.c0, hc7.c1, hc7.c2, hc7.c3⟩
                      | exact ⟨c0, c1, c2, c3⟩)
                    ((go_at_call 23
                      refine (HCALL.out _ (hcr.in_.below (Below.refl _ wi).drew)).mono ?_
                      rintro e w7 ⟨rfl, hb7⟩
                      have hc7 := hcr.next ((Below.refl _ wi).drew.trans hb7)))
                  clear hpw hvw hp4 hv4 c0 c1 c2 c3 hA1 hA2 HCALL
                  have c0 := hc7.c0
                  by_cases hq : s.A[c] = x[i]
                  · have hd : ((s.A[c].toNat : Int) != (x[i].toNat : Int)) = false := by rw [int_ne_bytes, bne_eq_false_iff_eq]; exact hq
                    have HN := Lib.hid (HGOOD.out false (by
                      unfold Sch.good
                      have : ¬ chg s.A.data.toList x.data.toList i c ≠ x.data.toList := fun hc => HCN.out.1 hc (by rw [← HE1.out, ← HE2.out]; exact hq)
                      rw [decide_eq_false this, Bool.false_and]))
                    clear hq HGOOD HCN HE1 HE2
                    generalize (s.npart x.data.toList i c).length = fc at *
                    go_wp2_with fail
                    go_quiet (fail)
                    have hc9 := hc7.next (below_drewN w7 nq)
                    go_wp2_with fail
                    go_roundw
                    case rel => exact ⟨c + 1, by omega, by go_num, by rw [HN.out]; rfl, hc9⟩
                    case measure => simp [intOf]; omega
                  · have hd : ((s.A[c].toNat : Int) != (x[i].toNat : Int)) = true := by rw [int_ne_bytes, bne_iff_ne]; exact hq
                    have HNE : Hid (chg s.A.data.toList x.data.toList i c ≠ x.data.toList) := Lib.hid (HCN.out.2 (by rw [← HE1.out, ← HE2.out]; exact hq))
                    clear hq HCN HE1 HE2
                    by_cases hs0 : s.serr oth.data.toList = 0
                    · have HN : Hid ((s.npart x.data.toList i (c + 1)).length = (s.npart x.data.toList i c).length + 1) := Lib.hid (HGOOD.out true (by
                        unfold Sch.good
                        rw [decide_eq_true HNE.out, ← HOD.out, decide_eq_true hs0]; rfl))
                      have hd2 : ((s.serr oth.data.toList : Int) == 0) = true := by rw [hs0]; rfl
                      clear hs0 HGOOD HNE
                      generalize (s.npart x.data.toList i c).length = fc at *
                      generalize s.serr oth.data.toList = er at *
                      go_wp2_with fail
                      go_quiet (fail)
                      have hc9 := hc7.next (below_drewN w7 nq)
                      go_wp2_with fail
                      go_roundw
                      case rel => exact ⟨c + 1, by omega, by go_num, by rw [HN.out]; go_num, hc9⟩
                      case measure => simp [intOf]; omega
                    · have HN := Lib.hid (HGOOD.out false (by
                        unfold Sch.good
                        rw [← HOD.out, decide_eq_false hs0, Bool.and_false]))
                      have hd2 : ((s.serr oth.data.toList : Int) == 0) = false := by rw [beq_eq_false_iff_ne]; omega
                      clear hs0 HGOOD HNE
                      generalize (s.npart x.data.toList i c).length = fc at *
                      generalize s.serr oth.data.toList = er at *
                      go_wp2_with fail
                      go_quiet (fail)
                      have hc9 := hc7.next (below_drewN w7 nq)
                      go_wp2_with fail
                      go_roundw
                      case rel => exact ⟨c + 1, by omega, by go_num, by rw [HN.out]; rfl, hc9⟩
                      case measure => simp [intOf]; omega
                · obtain rfl : c = s.A.size := by omega
                  rw [npart_next]
                  have c0 := hcr.c0
                  go_wp2_with fail
                  clear c0
                  go_roundw
                  case rel => exact ⟨i + 1, by omega, by go_num, rfl, hcr⟩
                  case measure => simp [intOf]; omega
            · obtain rfl : i = x.size := by omega
              rw [HNP.out]
              go_wp2_with fail
              refine awake_any.mono ?_
              rintro e w12 ⟨rfl, hb12⟩
              have hc12 := hcr.next hb12
              go_wp2
              go_ret
              exact ⟨rfl, hc12.below⟩
  all_goals
    go_wp2_with fail
    refine awake_any.mono ?_
    rintro e w3 ⟨rfl, hb3⟩
    have hc3 := hc2.next hb3
    go_wp2
    go_ret
    exact ⟨rfl, hc3.below⟩
end
end Go.Proofs.Yteleehldcpjndaa
