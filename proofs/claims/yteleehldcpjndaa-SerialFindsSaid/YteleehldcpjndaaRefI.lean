/- The contracts of the reference's Count and Text. Condition: the scheme is valid, its parts and the rows are in memory. -/
import Derived.Test.YteleehldcpjndaaRefH
namespace Go.Proofs.Yteleehldcpjndaa
open Go Go.RowKit

/-- at hand: the boxes of the scheme and of the rows, the rows in memory -/
structure RT (s : Sch) (a : Option Addr) (cap : Nat) (m : RMem) (m1 : Nat) (w wr : World) : Prop where
  ctx : Ctx s a cap w w.heap.size wr
  rbox : wr.heap[w.heap.size + 1]? = some (.cells #[.slice m.ao s.S.length m.c, .slice (some ⟨m.gn, 0, none⟩) s.S.length m.cn, .slice (some ⟨m.gw, 0, none⟩) m1 m.cw] 29 (0, 0))
  mem : m.In s wr

def rowsO (s : Sch) (m : RMem) (m1 : Nat) : Obj := .cells #[.slice m.ao s.S.length m.c, .slice (some ⟨m.gn, 0, none⟩) s.S.length m.cn, .slice (some ⟨m.gw, 0, none⟩) m1 m.cw] 29

section
variable {w wr w' : World} {s : Sch} {a : Option Addr} {cap m1 : Nat} {m : RMem}

theorem RT.next (h : RT s a cap m m1 w wr) (hb : Below wr.heap.size wr w') : RT s a cap m m1 w w' :=
  ⟨h.ctx.next hb, (hb.block _ (lt_of_block h.rbox)).trans h.rbox, h.mem.below hb⟩

theorem RT.start (h : s.In w a) (hm : m.In s w) : RT s a cap m m1 w ((boxW s a cap w).alloc (rowsO s m m1)) :=
  ⟨(Ctx.start' h).next ((Below.refl _ _).alloc (Nat.le_refl _) _), heap_new _ _ _ _ (by simp [boxW]), (hm.below ((Below.refl _ _).alloc (Nat.le_refl _) _)).below ((Below.refl _ _).alloc (Nat.le_refl _) _)⟩

theorem RT.r0 (h : RT s a cap m m1 w wr) : wr.cell? ⟨w.heap.size + 1, 0, none⟩ = some (.slice m.ao s.S.length m.c) := cell_of_block h.rbox 0
theorem RT.r1 (h : RT s a cap m m1 w wr) : wr.cell? ⟨w.heap.size + 1, 1, none⟩ = some (.slice (some ⟨m.gn, 0, none⟩) s.S.length m.cn) := cell_of_block h.rbox 1
theorem RT.r2 (h : RT s a cap m m1 w wr) : wr.cell? ⟨w.heap.size + 1, 2, none⟩ = some (.slice (some ⟨m.gw, 0, none⟩) m1 m.cw) := cell_of_block h.rbox 2

theorem val_m1 (hm1 : m1 = s.L.toNat + 1) : m.val s = .agg #[.slice m.ao s.S.length m.c, .slice (some ⟨m.gn, 0, none⟩) s.S.length m.cn, .slice (some ⟨m.gw, 0, none⟩) m1 m.cw] := by rw [hm1]; rfl

theorem RT.n1 (h : RT s a cap m m1 w wr) {i : Nat} (hi : i < s.S.length) : wr.cell? ⟨m.gn, i, none⟩ = some (.slice (some ⟨(m.fn.getD i (0, 0)).1, 0, none⟩) s.A.size (m.fn.getD i (0, 0)).2) := h.mem.nx.out.1 i hi
theorem RT.n2 (h : RT s a cap m m1 w wr) {i v : Nat} (hi : i < s.S.length) (hv : v < s.A.size) : wr.cell? ⟨(m.fn.getD i (0, 0)).1, v, none⟩ = some (.int .i64 (s.rx i v)) := h.mem.nx.out.2 i hi v hv
theorem RT.w1 (h : RT s a cap m m1 w wr) {n : Nat} (hn : n < s.L.toNat + 1) : wr.cell? ⟨m.gw, n, none⟩ = some (.slice (some ⟨(m.hn.getD n (0, 0)).1, 0, none⟩) s.S.length (m.hn.getD n (0, 0)).2) := h.mem.wy.out.1 n hn
theorem RT.w2 (h : RT s a cap m m1 w wr) {n i : Nat} (hn : n < s.L.toNat + 1) (hi : i < s.S.length) : wr.cell? ⟨(m.hn.getD n (0, 0)).1, i, none⟩ = some (.int .i64 (s.rw_ n i : Nat)) := h.mem.wy.out.2 n hn i hi

set_option maxHeartbeats 1000000 in
theorem count_ref (W : s.Wf) (h : s.In w a) (hm : m.In s w) : Calls Try.prog 20 #[s.val a cap, m.val s] w fun e w' => e = .returned (.int .i64 (s.rw_ s.L.toNat 0 : Nat)) ∧ Below w.heap.size w w' := by
  obtain ⟨m1, hm1⟩ : ∃ m1, m1 = s.L.toNat + 1 := ⟨_, rfl⟩
  have hL1 := W.l1
  have hL16 := W.l16
  have hS0 : 0 < s.S.length := (rbegs_head s.B).1
  have hc1 : RT s a cap m m1 w ((boxW s a cap w).alloc (rowsO s m m1)) := RT.start h hm
  have hLm : s.L < (m1 : Int) := by omega
  have hL0 : 0 ≤ s.L := by omega
  have e1 := hc1.w1 (n := s.L.toNat) (by omega)
  have e2 := hc1.w2 (n := s.L.toNat) (by omega) hS0
  generalize (m.hn.getD s.L.toNat (0, 0)).1 = hh at e1 e2
  generalize (m.hn.getD s.L.toNat (0, 0)).2 = hcn at e1
  have hS1 : (0 : Int) < (s.S.length : Int) := by omega
  rw [val_m1 hm1]
  clear hm1 h hm
  generalize s.rw_ s.L.toNat 0 = q at *
  have c1 := hc1.ctx.c1
  have r2 := hc1.r2
  have HB := Lib.hid hc1.ctx.below
  clear hc1
  unfold boxW rowsO at *
  unfold Sch.val
  go_enter Try.func20, Try.ntmps20
  go_wp2_with fail
  go_ret
  exact ⟨rfl, HB.out⟩

set_option maxRecDepth 100000 in
set_option maxHeartbeats 2000000 in
theorem text_ref (O : s.Ok) (h : s.In w a) (hm : m.In s w) (n : Nat) (T : List Nat) (hT : s.bods[n]? = some T) :
    Calls Try.prog 21 #[s.val a cap, m.val s, .int .i64 n] w fun e w' => e = .returned (.string ⟨(s.ser T).toArray⟩) ∧ Below w.heap.size w w' := by
  obtain ⟨m1, hm1⟩ : ∃ m1, m1 = s.L.toNat + 1 := ⟨_, rfl⟩
  have hL1 := O.l1
  have hL16 := O.l16
  have hA2 := O.a2
  have hA36 := O.a36
  have hS0 : 0 < s.S.length := (rbegs_head s.B).1
  have hc1 : RT s a cap m m1 w ((boxW s a cap w).alloc (rowsO s m m1)) := RT.start h hm
  have hcap := O.cap
  unfold capM at hcap
  have hnb : n < s.bods.length := (List.getElem?_eq_some_iff.1 hT).1
  have hTm : T ∈ s.bods := List.mem_of_getElem? hT
  obtain ⟨hTl, hTv, _⟩ := bods_len O hTm
  have hT0 : (s.rp s.L.toNat 0)[n]? = some T := by rw [O.rp_bods]; exact hT
  have hlen0 : (s.rp s.L.toNat 0).length < capM := by rw [O.rp_bods]; exact O.cap
  have hn40 : n ≤ 1099511627776 := by omega
  have HOF : Hid (ofB (txt s.A.data.toList T) s.A.data.toList = true) := Lib.hid (of_txt (by rw [size_toList]; exact hTv))
  have HTL := Lib.hid hTl
  rw [val_m1 hm1]
  have HI : Hid (∀ r, r ≤ s.L.toNat → r < m1) := Lib.hid (fun r hr => by omega)
  have HST : Hid ((∃ rest : List Nat, T = [] ++ rest ∧ (s.rp s.L.toNat 0)[n]? = some rest) ∧ (s.rp s.L.toNat 0).length < capM) := Lib.hid ⟨⟨T, rfl, hT0⟩, hlen0⟩
  clear hm1 h hm hT hcap hnb hTm hTl hTv hT0 hlen0 O
  obtain ⟨L, hLn⟩ : ∃ L, s.L.toNat = L := ⟨_, rfl⟩
  have hLa : s.L ≤ (L : Int) := by omega
  have hLb : (L : Int) ≤ s.L := by omega
  rw [hLn] at HI HST HTL
  have HLN0 := Lib.hid hLn
  clear hLn
  unfold Sch.val
  go_enter Try.func21, Try.ntmps21
  go_wp2_with fail
  go_loopw [2, 7, 8, 9] (fun vn vb vat vi wr => ∃ (i k q : Nat) (b : ByteArray) (p : List Nat), i ≤ L ∧ q < s.S.length ∧ k ≤ 1099511627776 ∧ b.size = i ∧ vi = .int .i64 ((i + 1 : Nat) : Int) ∧ vn = .int .i64 k ∧ vat = .int .i64 q ∧ vb = .string b ∧
      Hid (b.data.toList = txt s.A.data.toList p) ∧ Hid ((∃ rest : List Nat, T = p ++ rest ∧ (s.rp (L - i) q)[k]? = some rest) ∧ (s.rp (L - i) q).length < capM) ∧ RT s a cap m m1 w wr)
    (fun _ _ _ vi _ => L + 1 - (intOf vi).toNat)
  case atStart => exact ⟨0, n, 0, ⟨#[]⟩, [], Nat.zero_le _, hS0, hn40, rfl, rfl, rfl, rfl, rfl, Lib.hid rfl, HST, hc1⟩
  case round =>
    clear HST hc1 hn40
    obtain ⟨i, k, q, b, p, hi, hq, hk, hbs, rfl, rfl, rfl, rfl, HBD, HR, hcr⟩ := hrel
    have c0 := hcr.ctx.c0
    have c1 := hcr.ctx.c1
    by_cases hlt : i < L
    · obtain ⟨r, hr⟩ : ∃ r, L - i = r + 1 := ⟨L - i - 1, by omega⟩
      have hra : L ≤ i + (r + 1) := by omega
      have hrb : i + (r + 1) ≤ L := by omega
      obtain ⟨⟨rest, hTp, hrk⟩, hrl⟩ := HR.out
      rw [hr] at hrk hrl
      rw [← Sch.rf_zero] at hrk
      have HTP := Lib.hid hTp
      have HRL := Lib.hid hrl
      have HRK : Hid ((s.rf r q 0)[k]? = some rest) := Lib.hid hrk
      clear hTp hrk hrl hr HR
      obtain ⟨wo, rfl⟩ : ∃ wo : World, wo = wr := ⟨_, rfl⟩
      have r1 := hcr.r1
      have r2 := hcr.r2
      go_wp2_with fail
      go_loop [2, 7, 8, 10] (fun vn vb vat vc => ∃ (c k' : Nat), c ≤ s.A.size ∧ k' ≤ 1099511627776 ∧ vc = .int .i64 c ∧ vn = .int .i64 k' ∧ vb = .string b ∧ vat = .int .i64 q ∧ Hid ((s.rf r q c)[k']? = some rest))
        (fun _ _ _ vc => s.A.size - (intOf vc).toNat)
      case atStart => exact ⟨0, k, Nat.zero_le _, hk, rfl, rfl, rfl, rfl, HRK⟩
      case round =>
        clear HRK hk
        obtain ⟨c, k', hc, hk', rfl, rfl, rfl, rfl, HRK⟩ := hrel
        by_cases hltc : c < s.A.size
        · have e1 := hcr.n1 hq
          have e2 := hcr.n2 hq hltc
          generalize (m.fn.getD q (0, 0)).1 = fi at e1 e2
          generalize (m.fn.getD q (0, 0)).2 = ci at e1
          rcases Sch.rt_cases (s := s) (i := q) (v := c) with ⟨ht, hx⟩ | ⟨j, hj, ht, hx⟩
          · rw [hx] at e2
            have HRK2 := Lib.hid (Sch.rf_none hltc ht HRK.out)
            clear ht hx
            go_wp2_with fail
            go_round
            case rel => exact ⟨c + 1, k', by omega, hk', by go_num, rfl, rfl, rfl, HRK2⟩
            case measure => simp [intOf]; omega
          · rw [hx] at e2
            have hexact := Sch.rw_exact (s := s) (n := r) (t := j) (by have := Sch.rp_sub (n := r) hltc ht; have := HRL.out; omega)
            have e3 := hcr.w1 (n := r) (by rw [HLN0.out]; omega)
            have e4 := hcr.w2 (n := r) (by rw [HLN0.out]; omega) hj
            rw [hexact] at e4
            generalize (m.hn.getD r (0, 0)).1 = hh at e3 e4
            generalize (m.hn.getD r (0, 0)).2 = hcn at e3
            have hsub : s.L - ((i : Int) + 1) = (r : Int) := by omega
            have hrm := HI.out r (by omega)
            obtain ⟨ln, hln⟩ : ∃ ln, ln = (s.rp r j).length := ⟨_, rfl⟩
            have hlc : ln ≤ 1099511627776 := by
              have h1 := Sch.rp_sub (n := r) hltc ht
              have h2 := HRL.out
              unfold capM at h2; omega
            have HLN := Lib.hid hln
            have HT := Lib.hid ht
            rw [← hln] at e4
            clear hexact hln hx
            by_cases hkl : k' < ln
            · obtain ⟨T', hT1, hT2⟩ := Sch.rf_hit hltc HT.out (by rw [← HLN.out]; exact hkl) HRK.out
              have HT1 := Lib.hid hT1
              have HT2 := Lib.hid hT2
              have hsum : b.size + (s.A.extract c (c + 1)).size ≤ 9223372036854775807 := by simp; omega
              have HX : Hid ((b ++ s.A.extract c (c + 1)).data.toList = txt s.A.data.toList (p ++ [c])) := Lib.hid (by
                rw [app_data, extract_one s.A c hltc, HBD.out, txt_snoc])
              have HZ : Hid ((b ++ s.A.extract c (c + 1)).size = i + 1) := Lib.hid (by
                rw [← size_toList, HX.out, txt_len, List.length_append]
                have := congrArg List.length HBD.out
                rw [size_toList, txt_len] at this
                simp; omega)
              have HL2 : Hid ((s.rp (L - (i + 1)) j).length < capM) := Lib.hid (by
                rw [show L - (i + 1) = r by omega]
                have h1 := Sch.rp_sub (n := r) hltc HT.out
                have h2 := HRL.out
                omega)
              clear hT1 hT2
              go_wp2_with fail
              go_roundw
              case rel =>
                refine ⟨i + 1, k', j, b ++ s.A.extract c (c + 1), p ++ [c], by omega, hj, hk', HZ.out, by go_num, rfl, rfl, rfl, HX, Lib.hid ⟨⟨T', ?_, ?_⟩, HL2.out⟩, hcr⟩
                · rw [HTP.out, HT1.out]; simp
                · rw [show L - (i + 1) = r by omega]; exact HT2.out
              case measure => simp [intOf]; omega
            · have HRK2 := Lib.hid (Sch.rf_miss hltc HT.out (by rw [← HLN.out]; exact hkl) HRK.out)
              rw [← HLN.out] at HRK2
              have hkn : (k' : Int) - (ln : Int) = ((k' - ln : Nat) : Int) := by omega
              go_wp2_with fail
              go_round
              case rel => exact ⟨c + 1, k' - ln, by omega, by omega, by go_num, by first | rfl | rw [hkn], rfl, rfl, HRK2⟩
              case measure => simp [intOf]; omega
        · exfalso
          obtain rfl : c = s.A.size := by omega
          have := HRK.out
          rw [Sch.rf_end] at this
          cases this
    · obtain rfl : i = L := by omega
      obtain ⟨⟨rest, hTp, hrk⟩, _⟩ := HR.out
      have hr0 : rest = [] := by
        rw [Nat.sub_self, Sch.rp_zero] at hrk
        match k, hrk with
        | 0, hrk => simpa using hrk.symm
        | k + 1, hrk => simp at hrk
      have HX : Hid (b.data.toList = txt s.A.data.toList T) := Lib.hid (by rw [hTp, hr0, List.append_nil]; exact HBD.out)
      have HSR : Hid (serialOf s.A.data.toList s.chk b.data.toList = s.ser T) := Lib.hid (by rw [HX.out]; rfl)
      have HOF2 : Hid (ofB b.data.toList s.A.data.toList = true) := Lib.hid (by rw [HX.out]; exact HOF.out)
      clear hTp hrk hr0 HR
      have c2 := hcr.ctx.c2
      have c3 := hcr.ctx.c3
      go_wp2_with fail
      refine (serial_ref (s := s) (a := a) (cap := cap) hA2 hA36 b (by omega) HOF2.out).mono ?_
      rintro e w9 ⟨rfl, hb9⟩
      rw [HSR.out]
      have hc9 := hcr.next hb9
      go_wp2_with fail
      go_ret
      exact ⟨rfl, hc9.ctx.below⟩
end
end Go.Proofs.Yteleehldcpjndaa
