/- The contract of the reference's Check. Condition: the scheme's parts are in memory. -/
import Derived.Test.YteleehldcpjndaaRefG
import Derived.Test.YteleehldcpjndaaRPath
import Derived.Test.YteleehldcpjndaaRefC
import Derived.Test.YteleehldcpjndaaLawD
import Derived.Laws.ResultCell
namespace Go.Proofs.Yteleehldcpjndaa
open Go Go.RowKit

theorem results_rows {P : Program} {fn : Func} {p u : Tmp} {ty : TypeId} (h : fn.results = #[.cell p ty, .tmp u]) (tmps : Array Value) (w : World) (g : Nat) (t : TypeId) (cs : Array Value) (fr : Nat × Nat) (d : TypeDesc) (v : Value)
    (hp : tmps.getD p undef = .pointer (some ⟨g, 0, none⟩)) (hq : tmps.getD u undef = v) (hg : w.heap[g]? = some (.cells cs t fr))
    (hu : P.underlying ty = some d) (hd : (match d with | .struct _ | .array _ _ => true | _ => false) = true) (hi : (P.info? ty).map (·.size) = some cs.size) :
    (results fn tmps).run P w = .ok (.tuple #[.agg cs, v]) w := by
  rw [results_cell_tmp h, hp, hq]
  simp [asAddr, run_loadVar_row w g t ty cs fr d hg hu hd hi, Result.andThen]

/-- Check has at hand: the scheme's box, its result -/
structure CT (s : Sch) (a : Option Addr) (cap : Nat) (w wr : World) : Prop where
  ctx : Ctx s a cap w w.heap.size wr
  res : wr.heap[w.heap.size + 1]? = some (.cells #[nilS, nilS, nilS] 29 (0, 0))

section
variable {w wr w' : World} {s : Sch} {a : Option Addr} {cap : Nat}

theorem CT.next (h : CT s a cap w wr) (hb : Below wr.heap.size wr w') : CT s a cap w w' :=
  ⟨h.ctx.next hb, (hb.block _ (lt_of_block h.res)).trans h.res⟩

theorem CT.start (h : s.In w a) : CT s a cap w ((boxW s a cap w).alloc (.cells #[nilS, nilS, nilS] 29)) :=
  ⟨(Ctx.start' h).next ((Below.refl _ _).alloc (Nat.le_refl _) _), heap_new _ _ _ _ (by simp [boxW])⟩

/-- behind a store of the whole result -/
theorem CT.put3 (h : CT s a cap w wr) (x y z : Value) :
    (((wr.setCell ⟨w.heap.size + 1, 0, none⟩ x).setCell ⟨w.heap.size + 1, 1, none⟩ y).setCell ⟨w.heap.size + 1, 2, none⟩ z).heap[w.heap.size + 1]? = some (.cells #[x, y, z] 29 (0, 0)) ∧
    Below w.heap.size w (((wr.setCell ⟨w.heap.size + 1, 0, none⟩ x).setCell ⟨w.heap.size + 1, 1, none⟩ y).setCell ⟨w.heap.size + 1, 2, none⟩ z) ∧
    wr.grownBy (((wr.setCell ⟨w.heap.size + 1, 0, none⟩ x).setCell ⟨w.heap.size + 1, 1, none⟩ y).setCell ⟨w.heap.size + 1, 2, none⟩ z) (some (w.heap.size + 1)) := by
  have hG := grown_trans (grown_trans (grown_setCell wr ⟨w.heap.size + 1, 0, none⟩ x) (grown_setCell _ ⟨w.heap.size + 1, 1, none⟩ y)) (grown_setCell _ ⟨w.heap.size + 1, 2, none⟩ z)
  refine ⟨block_setCell (block_setCell (block_setCell h.res 0 x) 1 y) 2 z, h.ctx.below.grown hG h.ctx.below.size (fun k hk => ?_), hG⟩
  injection hk with hk
  simp at hk; omega

theorem CT.far (h : CT s a cap w wr) {p : Addr} {v : Value} (hp : wr.cell? p = some v) (hv : v ≠ nilS) : p.block ≠ w.heap.size + 1 := by
  intro e
  obtain ⟨b, o, sp⟩ := p
  have hsp : sp = none := by simpa using World.cell?_spot hp
  subst hsp
  simp only at e
  subst e
  rw [cell_of_block h.res o] at hp
  match o, hp with
  | 0, hp => simp at hp; exact hv hp.symm
  | 1, hp => simp at hp; exact hv hp.symm
  | 2, hp => simp at hp; exact hv hp.symm
  | o + 3, hp => simp at hp

theorem CT.cell (h : CT s a cap w wr) (hG : wr.grownBy w' (some (w.heap.size + 1))) {p : Addr} {v : Value} (hp : wr.cell? p = some v) (hv : v ≠ nilS) : w'.cell? p = some v :=
  (hG.cell_far p (World.block_lt_of_cell? wr _ hp) (fun e => by injection e with e; exact h.far hp hv e)).trans hp

theorem RMem.In.put {m : RMem} (hm : m.In s wr) (h : CT s a cap w wr) (hG : wr.grownBy w' (some (w.heap.size + 1))) : m.In s w' := by
  refine ⟨?_, Lib.hid ⟨?_, ?_⟩, Lib.hid ⟨?_, ?_⟩⟩
  · intro hpos
    obtain ⟨b, off, ha, hc⟩ := hm.beg hpos
    exact ⟨b, off, ha, Lib.hid fun i hi => h.cell hG (hc.out i hi) (by simp [nilS])⟩
  · exact fun i hi => h.cell hG (hm.nx.out.1 i hi) (by simp [nilS])
  · exact fun i hi v hv => h.cell hG (hm.nx.out.2 i hi v hv) (by simp [nilS])
  · exact fun i hi => h.cell hG (hm.wy.out.1 i hi) (by simp [nilS])
  · exact fun i hi v hv => h.cell hG (hm.wy.out.2 i hi v hv) (by simp [nilS])

/-- what Check returns -/
def CheckPost (s : Sch) (w : World) (e : Ending) (w' : World) : Prop :=
  Below w.heap.size w w' ∧ ((s.err ≠ 0 ∧ e = .returned (.tuple #[.agg #[nilS, nilS, nilS], .int .i64 (s.err : Nat)])) ∨ (s.err = 0 ∧ ∃ m : RMem, e = .returned (.tuple #[m.val s, .int .i64 0]) ∧ m.In s w'))

set_option maxRecDepth 100000 in
set_option maxHeartbeats 2000000 in
theorem check_ref (h : s.In w a) : Calls Try.prog 18 #[s.val a cap] w (CheckPost s w) := by
  have hc1 : CT s a cap w ((boxW s a cap w).alloc (.cells #[nilS, nilS, nilS] 29)) := CT.start h
  clear h
  unfold Sch.val
  go_enter Try.func18, Try.ntmps18
  go_wp2_with fail
  change Calls _ _ _ ((boxW s a cap w).alloc (.cells #[nilS, nilS, nilS] 29)) _
  generalize (boxW s a cap w).alloc (.cells #[nilS, nilS, nilS] 29) = w1 at *
  refine (formed_ref (cap := cap) hc1.ctx.in_).mono ?_
  rintro e w3 ⟨rfl, hb3⟩
  have hc3 := hc1.next hb3
  clear hc1 hb3
  cases hwf : s.wf
  · have HE : Hid (s.err = 20) := Lib.hid (by unfold Sch.err; rw [hwf]; rfl)
    clear hwf
    have r0 : w3.cell? ⟨w.heap.size + 1, 0, none⟩ = some (.slice none 0 0) := cell_of_block hc3.res 0
    have r1 : w3.cell? ⟨w.heap.size + 1, 1, none⟩ = some (.slice none 0 0) := cell_of_block hc3.res 1
    have r2 : w3.cell? ⟨w.heap.size + 1, 2, none⟩ = some (.slice none 0 0) := cell_of_block hc3.res 2
    have g0 := free_block hc3.res 0
    have g1 := free_block hc3.res 1
    have g2 := free_block hc3.res 2
    go_wp2_with fail
    obtain ⟨hcs, hbel, _⟩ := hc3.put3 (.slice none 0 0) (.slice none 0 0) (.slice none 0 0)
    generalize ((w3.setCell ⟨w.heap.size + 1, 0, none⟩ (.slice none 0 0)).setCell ⟨w.heap.size + 1, 1, none⟩ (.slice none 0 0)).setCell ⟨w.heap.size + 1, 2, none⟩ (.slice none 0 0) = W3 at *
    have HP : Hid (CheckPost s w (.returned (.tuple #[.agg #[.slice none 0 0, .slice none 0 0, .slice none 0 0], .int .i64 20])) W3) := Lib.hid ⟨hbel, .inl ⟨by rw [HE.out]; decide, by rw [HE.out]; rfl⟩⟩
    refine bodyPost_ret (results_rows rfl _ _ _ _ _ _ _ (.int .i64 20) rfl rfl hcs Try.underlying29 rfl infoRows) rfl ?_
    exact HP.out
  · have HWF := Lib.hid hwf
    have W := Sch.wf_of hwf
    clear hwf
    have c0 := hc3.ctx.c0
    have c1 := hc3.ctx.c1
    have c2 := hc3.ctx.c2
    have c3 := hc3.ctx.c3
    go_wp2_with fail
    refine (table_ref (cap := cap) W hc3.ctx.in_).mono ?_
    rintro e w4 ⟨m, rfl, hm, hb4⟩
    have hc4 := hc3.next hb4
    clear hc3 hb4 c0 c1 c2 c3
    have hL1 := W.l1
    have hL16 := W.l16
    have hS0 : 0 < s.S.length := (rbegs_head s.B).1
    obtain ⟨m1, hm1⟩ : ∃ m1, m1 = s.L.toNat + 1 := ⟨_, rfl⟩
    have hLm : s.L < (m1 : Int) := by omega
    have hL0 : 0 ≤ s.L := by omega
    have e1 := hm.wy.out.1 s.L.toNat (by omega)
    have e2 := hm.wy.out.2 s.L.toNat (by omega) 0 hS0
    dsimp only at e2
    generalize (m.hn.getD s.L.toNat (0, 0)).1 = hh at e1 e2
    generalize (m.hn.getD s.L.toNat (0, 0)).2 = hcn at e1
    have hS1 : (0 : Int) < (s.S.length : Int) := by omega
    have HV : Hid (m.val s = .agg #[.slice m.ao s.S.length m.c, .slice (some ⟨m.gn, 0, none⟩) s.S.length m.cn, .slice (some ⟨m.gw, 0, none⟩) m1 m.cw]) := Lib.hid (by rw [hm1]; rfl)
    have HQ := Lib.hid W.rw_bods
    rw [HV.out]
    clear hm1
    obtain ⟨q, hq⟩ : ∃ q, q = s.rw_ s.L.toNat 0 := ⟨_, rfl⟩
    rw [← hq] at e2 HQ
    clear hq
    have hc5 : CT s a cap w (w4.alloc (.cells #[.slice m.ao s.S.length m.c, .slice (some ⟨m.gn, 0, none⟩) s.S.length m.cn, .slice (some ⟨m.gw, 0, none⟩) m1 m.cw] 29)) := hc4.next ((Below.refl _ _).alloc (Nat.le_refl _) _)
    have hm5 : m.In s (w4.alloc (.cells #[.slice m.ao s.S.length m.c, .slice (some ⟨m.gn, 0, none⟩) s.S.length m.cn, .slice (some ⟨m.gw, 0, none⟩) m1 m.cw] 29)) := hm.below ((Below.refl _ _).alloc (Nat.le_refl _) _)
    have c1 := hc5.ctx.c1
    have e1 := cell_alloc e1 (.cells #[.slice m.ao s.S.length m.c, .slice (some ⟨m.gn, 0, none⟩) s.S.length m.cn, .slice (some ⟨m.gw, 0, none⟩) m1 m.cw] 29)
    have e2 := cell_alloc e2 (.cells #[.slice m.ao s.S.length m.c, .slice (some ⟨m.gn, 0, none⟩) s.S.length m.cn, .slice (some ⟨m.gw, 0, none⟩) m1 m.cw] 29)
    have b0 : (w4.alloc (.cells #[.slice m.ao s.S.length m.c, .slice (some ⟨m.gn, 0, none⟩) s.S.length m.cn, .slice (some ⟨m.gw, 0, none⟩) m1 m.cw] 29)).heap[w4.heap.size]? = some (.cells #[.slice m.ao s.S.length m.c, .slice (some ⟨m.gn, 0, none⟩) s.S.length m.cn, .slice (some ⟨m.gw, 0, none⟩) m1 m.cw] 29 (0, 0)) := heap_new _ _ _ _ rfl
    have t0 := cell_of_block b0 0
    have t1 := cell_of_block b0 1
    have t2 := cell_of_block b0 2
    simp at t0 t1 t2
    have r0 := cell_of_block hc5.res 0
    have r1 := cell_of_block hc5.res 1
    have r2 := cell_of_block hc5.res 2
    simp at r0 r1 r2
    have g0 := free_block hc5.res 0
    have g1 := free_block hc5.res 1
    have g2 := free_block hc5.res 2
    have HC5 := Lib.hid hc5
    have HM5 := Lib.hid hm5
    clear hc5 hm5 b0
    rcases (show q = 0 ∨ 1099511627776 < q ∨ (1 ≤ q ∧ q ≤ 1099511627776) by omega) with h0 | h0 | ⟨h0, h1⟩
    · have HE : Hid (s.err = 3) := Lib.hid (by
        unfold Sch.err
        rw [HWF.out, if_neg (by simp), if_pos]
        have := HQ.out
        unfold capM at *
        omega)
      go_wp2_with fail
      obtain ⟨hcs, hbel, _⟩ := HC5.out.put3 (.slice none 0 0) (.slice none 0 0) (.slice none 0 0)
      have HP : Hid (CheckPost s w (.returned (.tuple #[.agg #[.slice none 0 0, .slice none 0 0, .slice none 0 0], .int .i64 3])) _) := Lib.hid ⟨hbel, .inl ⟨by rw [HE.out]; decide, by rw [HE.out]; rfl⟩⟩
      refine bodyPost_ret (results_rows rfl _ _ _ _ _ _ _ (.int .i64 3) rfl rfl hcs Try.underlying29 rfl infoRows) rfl ?_
      exact HP.out
    · have HE : Hid (s.err = 3) := Lib.hid (by
        unfold Sch.err
        rw [HWF.out, if_neg (by simp), if_pos]
        have := HQ.out
        unfold capM at *
        omega)
      go_wp2_with fail
      obtain ⟨hcs, hbel, _⟩ := HC5.out.put3 (.slice none 0 0) (.slice none 0 0) (.slice none 0 0)
      have HP : Hid (CheckPost s w (.returned (.tuple #[.agg #[.slice none 0 0, .slice none 0 0, .slice none 0 0], .int .i64 3])) _) := Lib.hid ⟨hbel, .inl ⟨by rw [HE.out]; decide, by rw [HE.out]; rfl⟩⟩
      refine bodyPost_ret (results_rows rfl _ _ _ _ _ _ _ (.int .i64 3) rfl rfl hcs Try.underlying29 rfl infoRows) rfl ?_
      exact HP.out
    · have HE : Hid (s.err = 0) := Lib.hid (by
        unfold Sch.err
        rw [HWF.out, if_neg (by simp), if_neg]
        have := HQ.out
        unfold capM at *
        omega)
      go_wp2_with fail
      obtain ⟨hcs, hbel, hG⟩ := HC5.out.put3 (.slice m.ao s.S.length m.c) (.slice (some ⟨m.gn, 0, none⟩) s.S.length m.cn) (.slice (some ⟨m.gw, 0, none⟩) m1 m.cw)
      have hmp := HM5.out.put HC5.out hG
      have HP : Hid (CheckPost s w (.returned (.tuple #[.agg #[.slice m.ao s.S.length m.c, .slice (some ⟨m.gn, 0, none⟩) s.S.length m.cn, .slice (some ⟨m.gw, 0, none⟩) m1 m.cw], .int .i64 0])) _) := Lib.hid ⟨hbel, .inr ⟨HE.out, m, by rw [HV.out], hmp⟩⟩
      refine bodyPost_ret (results_rows rfl _ _ _ _ _ _ _ (.int .i64 0) rfl rfl hcs Try.underlying29 rfl infoRows) rfl ?_
      exact HP.out
end
end Go.Proofs.Yteleehldcpjndaa
