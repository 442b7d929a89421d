/- The contract of the reference's All. Condition: the scheme is valid and has at most 4000 words, its parts are in memory. -/
import Derived.Test.YteleehldcpjndaaWords
import Derived.Test.YteleehldcpjndaaRefI
import Derived.IntWalk
namespace Go.Proofs.Yteleehldcpjndaa
open Go Go.RowKit

/-- what All returns -/
def AllPost (s : Sch) (w : World) (e : Ending) (w' : World) : Prop :=
  Below w.heap.size w w' ∧ ∃ (ao : Option Addr) (cp : Nat), e = .returned (.slice ao s.bods.length cp) ∧ StrsAt w' ao (s.bods.map fun T => mkB (s.ser T))

section
variable {w : World} {s : Sch} {a : Option Addr} {cap : Nat}

theorem own_cell {w : World} {base g cp : Nat} {X : List Bytes} (h : w.ownsRow base 9 1 (.slice (some ⟨g, 0, none⟩) X.length cp) X.length (X.map strV)) {i : Nat} (hi : i < X.length) : w.cell? ⟨g, i, none⟩ = some (.string (mkB (X.getD i []))) := by
  rw [h.cellAt i (by omega), List.getElem?_map, List.getD_eq_getElem?_getD, List.getElem?_eq_getElem hi]
  rfl

def wtxt (s : Sch) (W : List (List Nat)) : List Bytes := W.map (txt s.A.data.toList)

theorem wtxt_len (s : Sch) (W : List (List Nat)) : (wtxt s W).length = W.length := by unfold wtxt; simp

theorem wtxt_get (s : Sch) (W : List (List Nat)) {k : Nat} (h : k < W.length) : (wtxt s W).getD k [] = txt s.A.data.toList (W.getD k []) := by
  unfold wtxt
  rw [List.getD_eq_getElem?_getD, List.getElem?_map, List.getElem?_eq_getElem h, List.getD_eq_getElem?_getD, List.getElem?_eq_getElem h]
  rfl

theorem wtxt_snoc (s : Sch) (W : List (List Nat)) (k c : Nat) : wtxt s (wpart s.A.size W k (c + 1)) = wtxt s (wpart s.A.size W k c) ++ [txt s.A.data.toList (W.getD k []) ++ [s.A.data.toList.getD c 0]] := by
  unfold wtxt
  rw [wpart_succ, List.map_append]
  simp [txt]

theorem words_any_len (m : Nat) : ∀ (L : Nat) (p : List Nat), p ∈ words m L → p.length = L
  | 0, p, h => by have : p = [] := by simpa [words] using h
                  rw [this]; rfl
  | L + 1, p, h => by
    simp only [words, List.mem_flatMap, List.mem_map] at h
    obtain ⟨v, _, q, hq, rfl⟩ := h
    rw [List.length_cons, words_any_len m L q hq]

set_option maxRecDepth 100000 in
set_option maxHeartbeats 4000000 in
theorem all_ref (O : s.Ok) (h : s.In w a) (hsm : s.A.size ^ s.L.toNat ≤ 4000) : Calls Try.prog 39 #[s.val a cap] w (AllPost s w) := by
  have hc1 := Ctx.start' (cap := cap) h
  have hA2 := O.a2
  have hA36 := O.a36
  have hL1 := O.l1
  have hL16 := O.l16
  have HB8 : Hid (∀ b ∈ s.bs, b.size ≤ 1000) := Lib.hid (fun b hb => by have := O.b8 b hb; omega)
  have HSM : Hid (∀ i, i ≤ s.L.toNat → s.A.size ^ i ≤ 4000) := Lib.hid (fun i hi => Nat.le_trans (Nat.pow_le_pow_right (by omega) hi) hsm)
  obtain ⟨i0, hi0, hz0, hz1, hz2⟩ := info_parts infoStr
  obtain ⟨L, hLn⟩ : ∃ L, s.L.toNat = L := ⟨_, rfl⟩
  have hLa : s.L ≤ (L : Int) := by omega
  have hLb : (L : Int) ≤ s.L := by omega
  have hL16' : L ≤ 16 := by omega
  have HLN0 := Lib.hid hLn
  rw [hLn] at HSM
  clear h hsm hLn
  have hc2 := hc1.next ((Below.refl _ _).alloc (Nat.le_refl _) (.cells #[.string ⟨#[]⟩] 9))
  have hown0 : ((boxW s a cap w).alloc (.cells #[.string ⟨#[]⟩] 9)).ownsRow (w.heap.size + 1) 9 1 (.slice (some ⟨w.heap.size + 1, 0, none⟩) 1 1) (wtxt s (words s.A.size 0)).length ((wtxt s (words s.A.size 0)).map strV) :=
    ⟨rfl, .inr ⟨w.heap.size + 1, 1, #[.string ⟨#[]⟩], rfl, by omega, heap_new _ _ _ _ (by simp [boxW]), Nat.le_refl _, by decide, rfl, rfl⟩⟩
  have HOWN0 := Lib.hid hown0
  clear hc1 hown0
  unfold Sch.val
  go_enter Try.func39, Try.ntmps39
  go_wp2_with fail
  go_loopw [3, 4] (fun vB vi wr => ∃ i : Nat, i ≤ L ∧ vi = .int .i64 i ∧ Ctx s a cap w w.heap.size wr ∧ Hid (wr.ownsRow (w.heap.size + 1) 9 1 vB (wtxt s (words s.A.size i)).length ((wtxt s (words s.A.size i)).map strV)))
    (fun _ vi _ => L - (intOf vi).toNat)
  case atStart => exact ⟨0, Nat.zero_le _, rfl, hc2, HOWN0⟩
  case round =>
    clear hc2 HOWN0
    obtain ⟨i, hi, rfl, hci, hownB⟩ := hrel
    obtain ⟨wi, rfl⟩ : ∃ wi : World, wi = wr := ⟨_, rfl⟩
    obtain ⟨W, hW⟩ : ∃ W, W = words s.A.size i := ⟨_, rfl⟩
    rw [← hW] at hownB
    have hWl : W.length = s.A.size ^ i := by rw [hW, words_len]
    have hW0 : 0 < W.length := by rw [hWl]; exact Nat.pow_pos (by omega)
    have hWm := HSM.out i hi
    rw [← hWl] at hWm
    have HW := Lib.hid hW
    have HWL := Lib.hid hWl
    clear hW hWl
    obtain ⟨g, cp, hvB, hg1, hg2⟩ := hownB.out.form (by rw [wtxt_len]; exact hW0)
    subst hvB
    have HCELL : Hid (∀ k, k < W.length → wi.cell? ⟨g, k, none⟩ = some (.string (mkB (txt s.A.data.toList (W.getD k []))))) := Lib.hid (fun k hk => by
      rw [← wtxt_get s W hk]; exact own_cell hownB.out (by rw [wtxt_len]; exact hk))
    have HTL : Hid (∀ k, k < W.length → (mkB (txt s.A.data.toList (W.getD k []))).size = i) := Lib.hid (fun k hk => by
      rw [← size_toList, mkB_data, txt_len]
      refine words_any_len s.A.size i _ ?_
      rw [← HW.out, List.getD_eq_getElem?_getD, List.getElem?_eq_getElem hk]
      exact List.getElem_mem hk)
    have HWT := Lib.hid (wtxt_len s W)
    rw [HWT.out] at *
    clear hownB
    have c1 := hci.c1
    by_cases hlt : i < L
    · have hNm : W.length * s.A.size ≤ 4000 := by
        have := HSM.out (i + 1) (by omega)
        rw [Nat.pow_succ, ← HWL.out] at this
        exact this
      go_wp2_with fail
      go_loopw [5, 6] (fun vN vk wx => ∃ k : Nat, k ≤ W.length ∧ vk = .int .i64 k ∧ Below wi.heap.size wi wx ∧ Hid (wx.ownsRow wi.heap.size 9 1 vN (wtxt s (wpart s.A.size W k 0)).length ((wtxt s (wpart s.A.size W k 0)).map strV)))
        (fun _ vk _ => W.length - (intOf vk).toNat)
      case atStart => exact ⟨0, Nat.zero_le _, rfl, Below.refl _ _, Lib.hid (World.ownsRow_nil _ _ _ _)⟩
      case round =>
        obtain ⟨k, hk, rfl, hbel, hrow⟩ := hrel
        obtain ⟨wx, rfl⟩ : ∃ wx : World, wx = wr := ⟨_, rfl⟩
        by_cases hltk : k < W.length
        · have c0 := (hci.next hbel).c0
          clear c1
          go_wp2_with fail
          clear c0
          go_loopw [5, 7] (fun vN vc wy => ∃ c : Nat, c ≤ s.A.size ∧ vc = .int .i64 c ∧ Below wi.heap.size wi wy ∧ Hid (wy.ownsRow wi.heap.size 9 1 vN (wtxt s (wpart s.A.size W k c)).length ((wtxt s (wpart s.A.size W k c)).map strV)))
            (fun _ vc _ => s.A.size - (intOf vc).toNat)
          case atStart => exact ⟨0, Nat.zero_le _, rfl, hbel, hrow⟩
          case round =>
            clear hbel hrow
            obtain ⟨c, hc, rfl, hbel, hrow⟩ := hrel
            obtain ⟨wz, rfl⟩ : ∃ wz : World, wz = wr := ⟨_, rfl⟩
            have hcz := hci.next hbel
            have c0 := hcz.c0
            by_cases hltc : c < s.A.size
            · have hbc := (hbel.cell (World.block_lt_of_cell? wi _ (HCELL.out k hltk))).trans (HCELL.out k hltk)
              have hbg : g < wi.heap.size := hg2
              obtain ⟨st, hst⟩ : ∃ st, st = mkB (txt s.A.data.toList (W.getD k [])) := ⟨_, rfl⟩
              have hsz := HTL.out k hltk
              rw [← hst] at hbc hsz
              have hud : (st ++ s.A.extract c (c + 1)).data.toList = txt s.A.data.toList (W.getD k []) ++ [s.A.data.toList.getD c 0] := by
                rw [app_data, extract_one s.A c hltc, hst, mkB_data]
              have HUD := Lib.hid hud
              have hsum : st.size + (s.A.extract c (c + 1)).size ≤ 9223372036854775807 := by simp; omega
              have hadd : ∀ wq : World, (Op.stringOp .add st (s.A.extract c (c + 1))).run Try.prog wq = .ok (.string (st ++ s.A.extract c (c + 1))) wq := fun wq => run_string_add_sum wq _ _ hsum
              obtain ⟨X, hX⟩ : ∃ X, X = wtxt s (wpart s.A.size W k c) := ⟨_, rfl⟩
              have hXl : X.length + 1 ≤ 4000 := by
                rw [hX, wtxt_len]
                exact Nat.le_trans (wpart_lt s.A.size W hltk hltc) hNm
              rw [← hX] at hrow
              have HNX : Hid (wtxt s (wpart s.A.size W k (c + 1)) = X ++ [txt s.A.data.toList (W.getD k []) ++ [s.A.data.toList.getD c 0]]) := Lib.hid (by rw [hX, wtxt_snoc])
              have hXm : X.length + 1 ≤ maxLen := by unfold maxLen; omega
              have hcs := hbel.size
              clear hst hud hX
              have hc0 : (0 : Int) ≤ (c : Int) := Int.natCast_nonneg _
              have hk0' : (0 : Int) ≤ (k : Int) := Int.natCast_nonneg _
              have hkN : (k : Int) < (W.length : Int) := by omega
              have hc1' : (c : Int) + 1 ≤ (s.A.size : Int) := by omega
              have hc1w : IntKind.i64.wrap ((c : Int) + 1) = (c : Int) + 1 := IntWalk.i64_in _ (by omega)
              have hc2' : (c : Int) ≤ (c : Int) + 1 := by omega
              have hc3 : (0 : Int) ≤ (c : Int) + 1 := by omega
              have hc4 : ((c : Int) + 1).toNat = c + 1 := by omega
              go_wp2_with fail
              go_region_held3 (fun x => x.cell? ⟨w.heap.size, 0, none⟩ = some (.string s.A) ∧ x.cell? ⟨g, k, none⟩ = some (.string st))
                (first
                  | exact ⟨(hci.next hb5).c0, hbc5⟩
                  | exact ⟨cell_alloc c0 _, cell_alloc hbc _⟩
                  | exact ⟨c0, hbc⟩)
                ((refine step_append_lies _ (by rfl) _ _ _ (by rfl) wi.heap.size 9 i0 _ 1 16 Try.underlying22 hi0 hz0 hz1 hz2 rfl (by omega) _ X.length (X.map strV) (by rfl) ((hrow.out.alloc _).drew)
                    ⟨wz.heap.size, 0, none⟩ 1 1 [.string (st ++ s.A.extract c (c + 1))] (by rfl) (by rfl) (World.news_of_block (cs := #[.string (st ++ s.A.extract c (c + 1))]) (t := 9) (fr := (0, 0)) (heap_alloc_new wz _)) (by simp [Value.oneCell'])
                    (by omega) hXm (by omega) (by simp; omega) (wz.heap.size + 1) (by simp) ?_
                  intro gg cp' w5 hown hgrow hat hlt5
                  have hb5 := (hbel.drew.alloc hcs (.cells #[.string (st ++ s.A.extract c (c + 1))] 9)).grown hgrow (by simp; omega) (fun r e => (hrow.out.lt r e).1)
                  have hbc5 := (hb5.cell (p := ⟨g, k, none⟩) hbg).trans ((hbel.cell (p := ⟨g, k, none⟩) hbg).symm.trans hbc)
                  have hown5 := own_snoc HUD.out hown))
              have HO5 : Hid (w5.ownsRow wi.heap.size 9 1 (.slice (some ⟨gg, 0, none⟩) (X.length + 1) cp') (wtxt s (wpart s.A.size W k (c + 1))).length ((wtxt s (wpart s.A.size W k (c + 1))).map strV)) := Lib.hid (by rw [HNX.out]; exact hown5)
              clear hc1w hc4 hown5 hown
              go_wp2
              go_roundw
              case rel => exact ⟨c + 1, by omega, by go_num, hb5, HO5⟩
              case measure => simp [intOf]; omega
            · obtain rfl : c = s.A.size := by omega
              rw [wpart_next s.A.size W hltk] at hrow
              go_wp2_with fail
              go_roundw
              case rel => exact ⟨k + 1, by omega, by go_num, hbel, hrow⟩
              case measure => simp [intOf]; omega
        · obtain rfl : k = W.length := by omega
          have HO : Hid (wx.ownsRow (w.heap.size + 1) 9 1 u5 (wtxt s (words s.A.size (i + 1))).length ((wtxt s (words s.A.size (i + 1))).map strV)) := Lib.hid (by
            have h1 := hrow.out
            rw [wpart_all, HW.out, ← words_snoc] at h1
            exact owns_mono h1 (by have := lt_of_block hci.box; omega))
          have hcx := hci.next hbel
          go_wp2_with fail
          go_roundw
          case rel => exact ⟨i + 1, by omega, by go_num, hcx, HO⟩
          case measure => simp [intOf]; omega
    · have hiL : s.L.toNat = i := by have := HLN0.out; omega
      have HWS : Hid (W = words s.A.size s.L.toNat) := Lib.hid (by rw [hiL]; exact HW.out)
      have hi16 : i ≤ 16 := by omega
      have HBW : Hid (s.outs W.length = s.bods.map s.ser) := Lib.hid (by rw [HWS.out]; exact outs_all O.toWf)
      clear hiL
      go_wp2_with fail
      clear c1
      go_loopw [8, 9] (fun vo vj wx => ∃ j : Nat, j ≤ W.length ∧ vj = .int .i64 j ∧ Below wi.heap.size wi wx ∧ Hid (wx.ownsRow wi.heap.size 9 1 vo (s.outs j).length ((s.outs j).map strV)))
        (fun _ vj _ => W.length - (intOf vj).toNat)
      case atStart => exact ⟨0, Nat.zero_le _, rfl, Below.refl _ _, Lib.hid (World.ownsRow_nil _ _ _ _)⟩
      case round =>
        obtain ⟨j, hj, rfl, hbel, hrow⟩ := hrel
        obtain ⟨wz, rfl⟩ : ∃ wz : World, wz = wr := ⟨_, rfl⟩
        by_cases hltj : j < W.length
        · have hcz := hci.next hbel
          have c0 := hcz.c0
          have c1 := hcz.c1
          have c2 := hcz.c2
          have c3 := hcz.c3
          have hbc := (hbel.cell (World.block_lt_of_cell? wi _ (HCELL.out j hltj))).trans (HCELL.out j hltj)
          have hsz := HTL.out j hltj
          have hwm := word_mem (s := s) (i := j) (by rw [← HWS.out]; exact hltj)
          rw [← HWS.out] at hwm
          have hno := outs_no (s := s) (i := j) (by rw [← HWS.out]; exact hltj)
          have hyes := outs_ok (s := s) (i := j) (by rw [← HWS.out]; exact hltj)
          rw [← HWS.out] at hno hyes
          obtain ⟨p, hp⟩ : ∃ p, p = W.getD j [] := ⟨_, rfl⟩
          rw [← hp] at hbc hsz hwm hno hyes
          have HNO := Lib.hid hno
          have HYES := Lib.hid hyes
          have HWM := Lib.hid hwm.2
          obtain ⟨st, hst⟩ : ∃ st, st = mkB (txt s.A.data.toList p) := ⟨_, rfl⟩
          rw [← hst] at hbc hsz
          have HST : Hid (st.data.toList = txt s.A.data.toList p) := Lib.hid (by rw [hst, mkB_data])
          have HOK := Lib.hid (okw_iff O.toWf hwm.2)
          have HOF : Hid (ofB st.data.toList s.A.data.toList = true) := Lib.hid (by rw [HST.out]; exact of_txt (by rw [size_toList]; exact hwm.2))
          have hbg : g < wi.heap.size := hg2
          have hoj := outs_len s j
          clear hp hwm hno hyes hst
          go_wp2_with fail
          go_still_tail 5, (by kernel_rfl)
          change wpList _ _ _ _ _ wz.drew
          have hbel2 := hbel.drew
          have hrow2 : Hid (wz.drew.ownsRow wi.heap.size 9 1 u8 (s.outs j).length ((s.outs j).map strV)) := hrow
          have hcd := hcz.next (Below.refl _ wz).drew
          clear hbel hrow hcz c0 c1 c2 c3
          have hbc2 : wz.drew.cell? ⟨g, j, none⟩ = some (.string st) := hbc
          clear hbc
          generalize wz.drew = w2 at *
          go_wp2_with fail
          refine (allowed_ref (cap := cap) hcd.in_ HB8.out st (by omega)).mono ?_
          rintro e w3 ⟨⟨r, rfl, hr⟩, hb3⟩
          rw [HST.out] at hr
          have hbel3 := hbel2.trans (hb3.mono hbel2.size)
          have HR3 := Lib.hid (kept_ne hrow2.out (grown_below hb3 none) (by intro r e; cases e))
          have hc3' := hcd.next hb3
          have hbc3 := (hb3.cell (World.block_lt_of_cell? w2 _ hbc2)).trans hbc2
          have HRR := Lib.hid hr
          clear hr hbel2 hrow2 hcd hbc2 hb3
          cases r
          · have HN : Hid (s.outs (j + 1) = s.outs j) := Lib.hid (HNO.out (by
              rw [← Bool.not_eq_true]
              intro hc
              have := HRR.out.2 (HOK.out.1 hc)
              cases this))
            go_wp2_with fail
            go_roundw
            case rel => exact ⟨j + 1, by omega, by go_num, hbel3, by rw [HN.out]; exact HR3⟩
            case measure => simp [intOf]; omega
          · have HN : Hid (s.outs (j + 1) = s.outs j ++ [s.ser p]) := Lib.hid (HYES.out (HOK.out.2 (HRR.out.1 rfl)))
            have c0 := hc3'.c0
            have c1 := hc3'.c1
            have c2 := hc3'.c2
            have c3 := hc3'.c3
            have hcall : ∀ wq : World, Calls Try.prog 31 #[s.val a cap, .string st] wq (fun e w' => e = .returned (.string (mkB (s.ser p))) ∧ Below wq.heap.size wq w') := by
              intro wq
              have := serial_ref (w := wq) (s := s) (a := a) (cap := cap) hA2 hA36 st (by omega) HOF.out
              rw [HST.out] at this
              exact this
            unfold Sch.val at hcall
            have HCALL := Lib.hid hcall
            obtain ⟨X, hX⟩ : ∃ X, X = s.outs j := ⟨_, rfl⟩
            rw [← hX] at HR3 HN hoj
            have hXm : X.length + 1 ≤ maxLen := by unfold maxLen; omega
            have hcs := hbel3.size
            have hj0 : (0 : Int) ≤ (j : Int) := Int.natCast_nonneg _
            have hjN : (j : Int) < (W.length : Int) := by omega
            clear hcall hX
            go_wp2_with fail
            go_region_held3 (fun x => x.cell? ⟨w.heap.size, 0, none⟩ = some (.string s.A) ∧ x.cell? ⟨w.heap.size, 1, none⟩ = some (.int .i64 s.L) ∧ x.cell? ⟨w.heap.size, 2, none⟩ = some (.slice a s.bs.length cap) ∧ x.cell? ⟨w.heap.size, 3, none⟩ = some (.bool s.chk) ∧ x.cell? ⟨g, j, none⟩ = some (.string st))
              (first
                | exact ⟨hc5.c0, hc5.c1, hc5.c2, hc5.c3, hbc5⟩
                | exact ⟨cell_alloc hc4.c0 _, cell_alloc hc4.c1 _, cell_alloc hc4.c2 _, cell_alloc hc4.c3 _, cell_alloc hbc4 _⟩
                | exact ⟨hc4.c0, hc4.c1, hc4.c2, hc4.c3, hbc4⟩
                | exact ⟨c0, c1, c2, c3, hbc3⟩)
              ((first
                | (go_at_call 31
                   refine (HCALL.out _).mono ?_
                   rintro e w4 ⟨rfl, hb4⟩
                   have hbel4 := hbel3.drew.trans (hb4.mono hcs)
                   have hs4 := hbel4.size
                   have hc4 := hc3'.next ((Below.refl _ w3).drew.trans hb4)
                   have hbc4 := (hb4.cell (World.block_lt_of_cell? w3 _ hbc3)).trans hbc3
                   have hr4 := kept_ne HR3.out.drew (grown_below hb4 none) (by intro r e; cases e))
                | (refine step_append_lies _ (by rfl) _ _ _ (by rfl) wi.heap.size 9 i0 _ 1 16 Try.underlying22 hi0 hz0 hz1 hz2 rfl (by omega) _ X.length (X.map strV) (by rfl) (hr4.alloc _)
                    ⟨w4.heap.size, 0, none⟩ 1 1 [.string (mkB (s.ser p))] (by rfl) (by rfl) (World.news_of_block (cs := #[.string (mkB (s.ser p))]) (t := 9) (fr := (0, 0)) (heap_alloc_new w4 _)) (by simp [Value.oneCell'])
                    (by omega) hXm (by omega) (by simp; omega) (w4.heap.size + 1) (by simp) ?_
                   intro gg cp' w5 hown hgrow hat hlt5
                   have hb5 := (hbel4.alloc hs4 (.cells #[.string (mkB (s.ser p))] 9)).grown hgrow (by simp; omega) (fun r e => (hr4.lt r e).1)
                   have hc5 := hci.next hb5
                   have hbc5 := (hb5.cell (p := ⟨g, j, none⟩) hbg).trans ((hbel4.cell (p := ⟨g, j, none⟩) hbg).symm.trans hbc4)
                   have hown5 := own_snoc (mkB_data (s.ser p)) hown)))
            have HO5 : Hid (w5.ownsRow wi.heap.size 9 1 (.slice (some ⟨gg, 0, none⟩) (X.length + 1) cp') (s.outs (j + 1)).length ((s.outs (j + 1)).map strV)) := Lib.hid (by rw [HN.out]; exact hown5)
            clear hown5 hown
            go_wp2
            go_roundw
            case rel => exact ⟨j + 1, by omega, by go_num, hb5, HO5⟩
            case measure => simp [intOf]; omega
        · obtain rfl : j = W.length := by omega
          have hrowF := hrow.out
          rw [HBW.out] at hrowF
          obtain ⟨ao, co, hv⟩ := owns_shape hrowF
          subst hv
          have hbf := hci.below.trans (hbel.mono hci.below.size)
          have HPOST : Hid (AllPost s w (.returned (.slice ao (s.bods.map s.ser).length co)) wz) := Lib.hid (by
            refine ⟨hbf, ao, co, by rw [List.length_map], ?_⟩
            have h1 := hrowF
            rw [strs_map] at h1
            have h2 : (s.bods.map s.ser).map mkB = s.bods.map fun T => mkB (s.ser T) := by rw [List.map_map]; rfl
            rw [h2] at h1
            have h3 : (s.bods.map fun T => mkB (s.ser T)).length = (s.bods.map s.ser).length := by simp
            rw [← h3] at h1
            exact strsAt_own h1)
          clear hrowF hbf
          go_wp2_with fail
          go_ret
          exact HPOST.out
end
end Go.Proofs.Yteleehldcpjndaa
