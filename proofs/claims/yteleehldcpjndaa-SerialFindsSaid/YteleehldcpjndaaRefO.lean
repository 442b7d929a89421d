/- The walk of package serial's Near up to its sort. Condition: the scheme is valid and in memory, the text has a serial's length and the alphabet's bytes. -/
import Derived.Test.YteleehldcpjndaaRefJ
import Derived.Test.YteleehldcpjndaaRefG
namespace Go.Proofs.Yteleehldcpjndaa
open Go Go.RowKit

/-- the text with another byte at a place -/
def chg (A x : Bytes) (i v : Nat) : Bytes := x.take i ++ [A.getD v 0] ++ x.drop (i + 1)

section
variable {s : Sch}

/-- a changed text that is a serial -/
def Sch.good (s : Sch) (x u : Bytes) : Bool := decide (u ≠ x) && decide (s.serr u = 0)

def Sch.nrow (s : Sch) (x : Bytes) (i c : Nat) : List Bytes := ((List.range c).map (chg s.A.data.toList x i)).filter (s.good x)
/-- what Near has found: the places before i, and at i the first c values -/
def Sch.npart (s : Sch) (x : Bytes) (i c : Nat) : List Bytes := (List.range i).flatMap (fun j => s.nrow x j s.A.size) ++ s.nrow x i c

theorem npart_yes {x : Bytes} {i c : Nat} (h : s.good x (chg s.A.data.toList x i c) = true) : s.npart x i (c + 1) = s.npart x i c ++ [chg s.A.data.toList x i c] := by
  unfold Sch.npart Sch.nrow
  rw [List.range_succ, List.map_append, List.filter_append, List.append_assoc]
  simp [h]

theorem npart_no {x : Bytes} {i c : Nat} (h : s.good x (chg s.A.data.toList x i c) = false) : s.npart x i (c + 1) = s.npart x i c := by
  unfold Sch.npart Sch.nrow
  rw [List.range_succ, List.map_append, List.filter_append]
  simp [h]

theorem npart_next (x : Bytes) (i : Nat) : s.npart x i s.A.size = s.npart x (i + 1) 0 := by
  unfold Sch.npart
  rw [List.range_succ, List.flatMap_append]
  simp [Sch.nrow]

theorem npart_len (x : Bytes) (i c : Nat) : (s.npart x i c).length ≤ i * s.A.size + c := by
  unfold Sch.npart
  rw [List.length_append]
  have h1 : ∀ j d, (s.nrow x j d).length ≤ d := by
    intro j d
    unfold Sch.nrow
    refine Nat.le_trans (List.length_filter_le _ _) ?_
    simp
  have h2 : ∀ n, ((List.range n).flatMap (fun j => s.nrow x j s.A.size)).length ≤ n * s.A.size := by
    intro n
    induction n with
    | zero => simp
    | succ n ih =>
      rw [List.range_succ, List.flatMap_append, List.length_append, Nat.succ_mul]
      have := h1 n s.A.size
      simp only [List.flatMap_cons, List.flatMap_nil, List.append_nil]
      omega
  have := h1 i c
  have := h2 i
  omega

variable {w : World} {a : Option Addr} {cap : Nat}

set_option maxRecDepth 100000 in
set_option maxHeartbeats 4000000 in
theorem near_walk (O : s.Ok) (he : s.err = 0) (h : s.In w a) (x : ByteArray) (hsyn : s.syn x.data.toList = true) (Post : Value → World → Prop)
    (hsort : ∀ (wb wr : World) (xb bx : Nat) (v : Value), s.At wb xb → wb.cell? ⟨bx, 0, none⟩ = some (.pointer (some ⟨xb, 0, none⟩)) → Below w.heap.size w wb → Below wb.heap.size wb wr →
      wr.ownsRow wb.heap.size 9 1 v (s.npart x.data.toList x.size 0).length ((s.npart x.data.toList x.size 0).map strV) →
      Calls Try.prog 59 #[v, .func (.func 60) #[] #[.pointer (some ⟨bx, 0, none⟩)]] wr fun e w' => e = .returned (.tuple #[]) ∧ Post v w') :
    Calls Try.prog 41 #[s.val a cap, .string x] w fun e w' => ∃ v, e = .returned (.tuple #[v, .int .i64 0]) ∧ Post v w' := by
  have HP := Lib.hid (fun w2 (h2 : s.In w2 a) => prepare_ok (cap := cap) h2 he)
  have HI := Lib.hid h
  have HSORT := Lib.hid hsort
  obtain ⟨hsz, hof⟩ := syn_iff.1 hsyn
  rw [size_toList] at hsz
  have hl1 := O.l1
  have hl16 := O.l16
  have ha36 := O.a36
  have hz17 : x.size ≤ 17 := by rw [hsz]; unfold sz; split <;> omega
  have HX : Hid (x.size ≤ maxLen) := Lib.hid (by unfold maxLen; omega)
  have HO := Lib.hid hof
  have HSZ := Lib.hid hsz
  have hd0 : ((x.size : Int) != (sz s.L.toNat s.chk : Nat)) = false := by rw [bne_eq_false_iff_eq, hsz]
  obtain ⟨i0, hi0, hz0, hz1, hz2⟩ := info_parts infoStr
  clear h he hsort hsyn hsz hof
  unfold Sch.val at *
  go_enter Try.func41, Try.ntmps41
  go_wp2_with fail
  refine (HP.out _ (HI.out.boxed _)).mono ?_
  rintro e w2 ⟨xb, rfl, hat, hb2⟩
  have hb3 := below_box _ hb2
  have hbs := hb3.alloc hb3.size (.cells #[.pointer (some ⟨xb, 0, none⟩)] 68)
  have hat3 := hat.below ((Below.refl w2.heap.size w2).alloc (Nat.le_refl _) (.cells #[.pointer (some ⟨xb, 0, none⟩)] 68))
  have hbx : (w2.alloc (.cells #[.pointer (some ⟨xb, 0, none⟩)] 68)).heap[w2.heap.size]? = some (.cells #[.pointer (some ⟨xb, 0, none⟩)] 68 (0, 0)) := heap_new _ _ _ _ rfl
  have b0 : (w2.alloc (.cells #[.pointer (some ⟨xb, 0, none⟩)] 68)).cell? ⟨w2.heap.size, 0, none⟩ = some (.pointer (some ⟨xb, 0, none⟩)) := cell_of_block hbx 0
  clear hb2 hb3 hat hbx
  obtain ⟨M, g, hsch, hnx⟩ := hat3.sch
  have c0 := hsch.a
  have HSCH := Lib.hid hsch
  clear hsch hnx
  go_wp2_with fail
  change Calls _ _ _ (w2.alloc (.cells #[.pointer (some ⟨xb, 0, none⟩)] 68)) _
  obtain ⟨bx, hbxe⟩ : ∃ bx, bx = w2.heap.size := ⟨_, rfl⟩
  rw [← hbxe] at b0 ⊢
  clear hbxe
  generalize w2.alloc (.cells #[.pointer (some ⟨xb, 0, none⟩)] 68) = wb at *
  refine (size_any HSCH.out (by omega)).mono ?_
  rintro e w4 ⟨rfl, rfl⟩
  go_wp2_with fail
  refine (of_any x _ _ HX.out).mono ?_
  rintro e w4 ⟨rfl, rfl⟩
  rw [HO.out]
  go_wp2_with fail
  go_loopw [9, 39] (fun vo vi wr => ∃ i : Nat, i ≤ x.size ∧ vi = .int .i64 i ∧ Below wb.heap.size wb wr ∧ Hid (wr.ownsRow wb.heap.size 9 1 vo (s.npart x.data.toList i 0).length ((s.npart x.data.toList i 0).map strV)))
    (fun _ vi _ => x.size - (intOf vi).toNat)
  case atStart => exact ⟨0, Nat.zero_le _, rfl, Below.refl _ _, Lib.hid (World.ownsRow_nil _ _ _ _)⟩
  case round =>
    have HB0 := Lib.hid b0
    have HC0 := Lib.hid c0
    clear b0 c0
    obtain ⟨i, hi, rfl, hbel, hrow⟩ := hrel
    obtain ⟨wx, rfl⟩ : ∃ wx : World, wx = wr := ⟨_, rfl⟩
    by_cases hlti : i < x.size
    · have b1 := (hbel.cell (World.block_lt_of_cell? wb _ HB0.out)).trans HB0.out
      have c1 := (hbel.cell (World.block_lt_of_cell? wb _ HC0.out)).trans HC0.out
      go_wp2_with fail
      clear b1 c1
      go_loopw [9, 48] (fun vo vc wy => ∃ c : Nat, c ≤ s.A.size ∧ vc = .int .i64 c ∧ Below wb.heap.size wb wy ∧ Hid (wy.ownsRow wb.heap.size 9 1 vo (s.npart x.data.toList i c).length ((s.npart x.data.toList i c).map strV)))
        (fun _ vc _ => s.A.size - (intOf vc).toNat)
      case atStart => exact ⟨0, Nat.zero_le _, rfl, hbel, hrow⟩
      case round =>
        clear hbel hrow
        obtain ⟨c, hc, rfl, hbel, hrow⟩ := hrel
        by_cases hltc : c < s.A.size
        · have b1 := (hbel.cell (World.block_lt_of_cell? wb _ HB0.out)).trans HB0.out
          have c1 := (hbel.cell (World.block_lt_of_cell? wb _ HC0.out)).trans HC0.out
          obtain ⟨oth, hoe⟩ : ∃ oth, oth = x.extract 0 i ++ s.A.extract c (c + 1) ++ x.extract (i + 1) x.size := ⟨_, rfl⟩
          have hod : oth.data.toList = chg s.A.data.toList x.data.toList i c := by
            rw [hoe, app_data, app_data, extract_one s.A c hltc, Lib.extract_to_end, Lib.extract_data]
            unfold chg
            simp
          have hos : oth.size ≤ 1000 := by
            rw [hoe]; simp; omega
          have HOE := Lib.hid hoe
          have HOD := Lib.hid hod
          have hpl := npart_len (s := s) x.data.toList i c
          have hpl2 : i * s.A.size ≤ 17 * 36 := Nat.mul_le_mul (by omega) ha36
          obtain ⟨X, hX⟩ : ∃ X, X = s.npart x.data.toList i c := ⟨_, rfl⟩
          rw [← hX] at hpl
          have hXl : X.length ≤ 1000 := by omega
          have HX2 := Lib.hid hX
          rw [← hX] at hrow
          have HOM : Hid (oth.size ≤ maxLen) := Lib.hid (by unfold maxLen; omega)
          clear hoe hod hpl hpl2 hX
          go_wp2_with fail
          go_quiet (fail)
          have hbel2 := hbel.trans ((below_drewN wr nq).mono hbel.size)
          have hrow2 : Hid ((wr.drewN nq).ownsRow wb.heap.size 9 1 u9 X.length (X.map strV)) := hrow
          rw [← HOE.out]
          clear hbel hrow b1 c1
          generalize wr.drewN nq = w5 at *
          have b1 := (hbel2.cell (World.block_lt_of_cell? wb _ HB0.out)).trans HB0.out
          by_cases hq : oth = x
          · have hd : (oth.toList != x.toList) = false := by rw [bne_eq_false_iff_eq, hq]
            have hdq : (oth.toList == x.toList) = true := by rw [beq_iff_eq, hq]
            have HN : Hid (s.npart x.data.toList i (c + 1) = X) := Lib.hid (by
              rw [HX2.out]
              apply npart_no
              unfold Sch.good
              rw [← HOD.out, hq]
              simp)
            clear hq
            go_wp2_with fail
            go_roundw
            case rel => exact ⟨c + 1, by omega, by go_num, hbel2, by rw [HN.out]; exact hrow2⟩
            case measure => simp [intOf]; omega
          · have hd : (oth.toList != x.toList) = true := by
              rw [bne_iff_ne]
              intro hcc
              rw [Lib.toList_data, Lib.toList_data] at hcc
              exact hq (ba_eq hcc)
            have hdq : (oth.toList == x.toList) = false := by
              rw [beq_eq_false_iff_ne]
              intro hcc
              rw [Lib.toList_data, Lib.toList_data] at hcc
              exact hq (ba_eq hcc)
            have HNE : Hid (chg s.A.data.toList x.data.toList i c ≠ x.data.toList) := Lib.hid (by rw [← HOD.out]; exact fun hcc => hq (ba_eq hcc))
            clear hq
            go_wp2_with fail
            refine (serial_at O (hat3.below hbel2) oth HOM.out).mono ?_
            rintro e w6 ⟨rfl, hb6⟩
            rw [show serialErr s.A.data.toList s.L.toNat s.chk s.tt oth.data.toList = s.serr oth.data.toList from rfl, HOD.out]
            have hbel3 := hbel2.trans (hb6.mono hbel2.size)
            have HR3 := Lib.hid (kept_ne hrow2.out (grown_below hb6 none) (by intro r e; cases e))
            clear hbel2 hrow2 b1 hb6
            by_cases hs0 : s.serr (chg s.A.data.toList x.data.toList i c) = 0
            · have HN : Hid (s.npart x.data.toList i (c + 1) = X ++ [chg s.A.data.toList x.data.toList i c]) := Lib.hid (by
                rw [HX2.out]
                apply npart_yes
                unfold Sch.good
                rw [decide_eq_true HNE.out, decide_eq_true hs0]; rfl)
              have hd2 : ((s.serr (chg s.A.data.toList x.data.toList i c) : Int) == 0) = true := by rw [hs0]; rfl
              clear hs0
              generalize s.serr (chg s.A.data.toList x.data.toList i c) = er at *
              have hXm : X.length + 1 ≤ maxLen := by unfold maxLen; omega
              have hcs := hbel3.size
              go_wp2_with (at_builtin; refine wpList_append_lies _ rfl _ _ 22 rfl wb.heap.size 9 i0 (.string ByteArray.empty) 1 16 Try.underlying22 hi0 hz0 hz1 hz2 rfl (by decide) _ X.length (X.map strV) rfl (HR3.out.alloc _) ⟨w6.heap.size, 0, none⟩ 1 1 [.string oth] rfl rfl (World.news_of_block (cs := #[.string oth]) (t := 9) (fr := (0, 0)) (heap_alloc_new w6 _)) (by simp [Value.oneCell']) (by omega) hXm (by omega) (by simp; omega) (w6.heap.size + 1) (by simp) ?_; intro gg cp' w7 hown hgrow hat hlt5; have hown5 := Lib.hid (own_snoc HOD.out hown); have hb7 := (hbel3.alloc hcs (.cells #[.string oth] 9)).grown hgrow (by simp; omega) (fun r e => (HR3.out.lt r e).1); clear hown hgrow hat)
              go_roundw
              case rel => exact ⟨c + 1, by omega, by go_num, hb7, by rw [HN.out]; exact hown5⟩
              case measure => simp [intOf]; omega
            · have HN : Hid (s.npart x.data.toList i (c + 1) = X) := Lib.hid (by
                rw [HX2.out]
                apply npart_no
                unfold Sch.good
                rw [decide_eq_false hs0, Bool.and_false])
              have hd2 : ((s.serr (chg s.A.data.toList x.data.toList i c) : Int) == 0) = false := by rw [beq_eq_false_iff_ne]; omega
              clear hs0
              generalize s.serr (chg s.A.data.toList x.data.toList i c) = er at *
              go_wp2_with fail
              go_roundw
              case rel => exact ⟨c + 1, by omega, by go_num, hbel3, by rw [HN.out]; exact HR3⟩
              case measure => simp [intOf]; omega
        · obtain rfl : c = s.A.size := by omega
          rw [npart_next] at hrow
          go_wp2_with fail
          go_roundw
          case rel => exact ⟨i + 1, by omega, by go_num, hbel, hrow⟩
          case measure => simp [intOf]; omega
    · obtain rfl : i = x.size := by omega
      go_wp2_with fail
      refine (HSORT.out wb _ xb bx _ hat3 HB0.out hbs hbel hrow.out).mono ?_
      rintro e w9 ⟨rfl, hP⟩
      have HPP := Lib.hid hP
      clear hP
      go_wp2_with fail
      go_ret2
      exact ⟨_, rfl, HPP.out⟩
end
end Go.Proofs.Yteleehldcpjndaa
