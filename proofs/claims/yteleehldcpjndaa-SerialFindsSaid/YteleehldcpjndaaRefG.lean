/- The contract of the reference's Table. Condition: the scheme is well-formed and its parts are in memory. -/
import Derived.Test.YteleehldcpjndaaRefF
import Derived.IntWalk
namespace Go.Proofs.Yteleehldcpjndaa
open Go Go.RowKit

abbrev nilS : Value := .slice none 0 0

/-- rows in memory -/
def RowsC (w : World) (g k m : Nat) (rs : List (Nat × Nat)) (F : Nat → Nat → Int) : Prop :=
  (∀ i, i < k → w.cell? ⟨g, i, none⟩ = some (.slice (some ⟨(rs.getD i (0, 0)).1, 0, none⟩) m (rs.getD i (0, 0)).2)) ∧ ∀ i, i < k → ∀ v, v < m → w.cell? ⟨(rs.getD i (0, 0)).1, v, none⟩ = some (.int .i64 (F i v))

theorem RowsC.below {w w' : World} {g k m : Nat} {rs : List (Nat × Nat)} {F : Nat → Nat → Int} (h : RowsC w g k m rs F) (hb : Below w.heap.size w w') : RowsC w' g k m rs F :=
  ⟨fun i hi => (hb.cell (World.block_lt_of_cell? w _ (h.1 i hi))).trans (h.1 i hi), fun i hi v hv => (hb.cell (World.block_lt_of_cell? w _ (h.2 i hi v hv))).trans (h.2 i hi v hv)⟩

/-- where the reference's rows lie -/
structure RMem where
  ao : Option Addr
  c : Nat
  gn : Nat
  cn : Nat
  gw : Nat
  cw : Nat
  fn : List (Nat × Nat)
  hn : List (Nat × Nat)

def RMem.val (m : RMem) (s : Sch) : Value := .agg #[.slice m.ao s.S.length m.c, .slice (some ⟨m.gn, 0, none⟩) s.S.length m.cn, .slice (some ⟨m.gw, 0, none⟩) (s.L.toNat + 1) m.cw]

structure RMem.In (m : RMem) (s : Sch) (w : World) : Prop where
  beg : StrsAt w m.ao (s.S.map mkB)
  nx : Hid (RowsC w m.gn s.S.length s.A.size m.fn s.rx)
  wy : Hid (RowsC w m.gw (s.L.toNat + 1) s.S.length m.hn (fun n i => (s.rw_ n i : Int)))

theorem RMem.In.below {m : RMem} {s : Sch} {w w' : World} (h : m.In s w) (hb : Below w.heap.size w w') : m.In s w' :=
  ⟨h.beg.below hb, Lib.hid (h.nx.out.below hb), Lib.hid (h.wy.out.below hb)⟩

/-- what Table returns -/
def TablePost (s : Sch) (w : World) (e : Ending) (w' : World) : Prop := ∃ m : RMem, e = .returned (m.val s) ∧ m.In s w' ∧ Below w.heap.size w w'

theorem infoRows : (Try.prog.info? 29).map (·.size) = some 3 := by kernel_rfl
theorem infoIs : (Try.prog.info? 67).map (fun i => (i.zero, i.size, i.bytes)) = some (some (.slice none 0 0), 1, 24) := by kernel_rfl

theorem rbegs_len (B : List Bytes) (hB : ∀ b ∈ B, b.length ≤ 8) : (rbegs B).length ≤ 1 + 8 * B.length := by
  have h : ∀ (B : List Bytes) (S : List Bytes), (∀ b ∈ B, b.length ≤ 8) → (B.foldl (fun S b => addB S b (b.length - 1)) S).length ≤ S.length + 8 * B.length := by
    intro B
    induction B with
    | nil => intro S _; simp
    | cons b B ih =>
      intro S hb
      have h1 := ih (addB S b (b.length - 1)) (fun c hc => hb c (by simp [hc]))
      have h2 := addB_len S b (b.length - 1)
      have h3 := hb b (by simp)
      rw [List.foldl_cons, List.length_cons]; omega
  have := h B [[]] hB
  unfold rbegs
  simpa using this

theorem own_snoc {w : World} {base : Nat} {v : Value} {S : List Bytes} {x : ByteArray} {u : Bytes} (hx : x.data.toList = u) (h : w.ownsRow base 9 1 v (S.length + 1) (S.map strV ++ [.string x])) : w.ownsRow base 9 1 v (S ++ [u]).length ((S ++ [u]).map strV) := by
  rw [List.map_append, List.length_append]
  have : strV u = .string x := by rw [← hx]; rfl
  simp only [List.map_cons, List.map_nil, List.length_cons, List.length_nil, this]
  exact h

theorem map_range_set {β : Type} (F : Nat → β) (n k : Nat) (u : β) : ((List.range n).map F).set k u = (List.range n).map fun i => if i = k then u else F i := by
  apply List.ext_getElem (by simp)
  intro i h1 h2
  rw [List.getElem_set, List.getElem_map, List.getElem_map, List.getElem_range]
  by_cases h : k = i
  · rw [if_pos h, if_pos h.symm]
  · rw [if_neg h, if_neg (fun e => h e.symm)]

theorem made_ints (n : Nat) (F : Nat → Int) (h : ∀ i, i < n → F i = 0) : (madeCells #[.int .i64 0] n).toList = (List.range n).map fun i => Value.int .i64 (F i) := by
  rw [toList_madeCells_one]
  symm
  rw [List.eq_replicate_iff]
  refine ⟨by simp, ?_⟩
  intro b hb
  obtain ⟨i, hi, rfl⟩ := List.mem_map.1 hb
  rw [h i (List.mem_range.1 hi)]

def onesF (j i : Nat) : Int := if i < j then 1 else 0
def onesV (n j : Nat) : List Value := (List.range n).map fun i => .int .i64 (onesF j i)

theorem ones_set (n k : Nat) : (onesV n k).set k (.int .i64 1) = onesV n (k + 1) := by
  unfold onesV
  rw [map_range_set]
  apply List.map_congr_left
  intro i _
  unfold onesF
  by_cases h : i = k
  · subst h; simp
  · rw [if_neg h]
    by_cases h2 : i < k
    · rw [if_pos h2, if_pos (by omega)]
    · rw [if_neg h2, if_neg (by omega)]

theorem ones_get {n k : Nat} (h : k < n) : (onesV n k)[k]? = some (.int .i64 0) := by
  unfold onesV
  rw [List.getElem?_map, List.getElem?_range h]
  unfold onesF
  rw [Option.map_some, if_neg (by omega)]

def midF (s : Sch) (n i c j : Nat) : Nat := if j < i then s.rw_ (n + 1) j else if j = i then s.rpart n i c else 0
def midV (s : Sch) (N n i c : Nat) : List Value := (List.range N).map fun j => .int .i64 (midF s n i c j : Int)

theorem mid_zero (s : Sch) (n j : Nat) : (midF s n 0 0 j : Int) = 0 := by
  unfold midF
  rw [if_neg (by omega)]
  split
  · rfl
  · rfl

theorem mid_get {s : Sch} {N n i c : Nat} (h : i < N) : (midV s N n i c)[i]? = some (.int .i64 (s.rpart n i c : Int)) := by
  unfold midV
  rw [List.getElem?_map, List.getElem?_range h]
  unfold midF
  rw [Option.map_some, if_neg (by omega), if_pos rfl]

theorem mid_next (s : Sch) (N n i : Nat) : midV s N n i s.A.size = midV s N n (i + 1) 0 := by
  unfold midV
  apply List.map_congr_left
  intro j _
  congr 2
  unfold midF
  by_cases h1 : j < i
  · rw [if_pos h1, if_pos (by omega)]
  · rw [if_neg h1]
    by_cases h2 : j = i
    · subst h2
      rw [if_pos rfl, if_pos (by omega), Sch.rpart_all]
    · rw [if_neg h2, if_neg (by omega)]
      split
      · rfl
      · rfl

theorem mid_skip {s : Sch} {N n i c : Nat} (h : s.rt i c = none) : midV s N n i c = midV s N n i (c + 1) := by
  unfold midV
  apply List.map_congr_left
  intro j _
  unfold midF
  rw [Sch.rpart_succ, h]

theorem mid_set {s : Sch} {N n i c j : Nat} (h : s.rt i c = some j) : (midV s N n i c).set i (.int .i64 ((min (s.rpart n i c + s.rw_ n j) capM : Nat) : Int)) = midV s N n i (c + 1) := by
  unfold midV
  rw [map_range_set]
  apply List.map_congr_left
  intro j' _
  unfold midF
  by_cases h2 : j' = i
  · subst h2
    rw [if_pos rfl, if_neg (by omega), if_pos rfl, Sch.rpart_succ, h]
  · rw [if_neg h2]
    by_cases h1 : j' < i
    · rw [if_pos h1, if_pos h1]
    · rw [if_neg h1, if_neg h1, if_neg h2, if_neg h2]

theorem mid_full (s : Sch) (N n : Nat) : midV s N n N 0 = (List.range N).map fun j => Value.int .i64 (s.rw_ (n + 1) j : Int) := by
  unfold midV
  apply List.map_congr_left
  intro j hj
  unfold midF
  rw [if_pos (List.mem_range.1 hj)]

section
variable {w : World} {s : Sch} {a : Option Addr} {cap : Nat}

set_option maxRecDepth 100000 in
set_option maxHeartbeats 4000000 in
theorem table_ref (W : s.Wf) (h : s.In w a) : Calls Try.prog 45 #[s.val a cap] w (TablePost s w) := by
  have HIN := Lib.hid h
  have HWF := Lib.hid W
  have hA2 := W.a2
  have hA36 := W.a36
  have hL1 := W.l1
  have hL16 := W.l16
  have hb16 : s.bs.length ≤ 16 := W.n16
  have HB8 : Hid (∀ b ∈ s.bs, 1 ≤ b.size ∧ b.size ≤ 8) := Lib.hid fun b hb => ⟨W.b1 b hb, W.b8 b hb⟩
  obtain ⟨i0, hi0, hz0, hz1, hz2⟩ := info_parts infoStr
  obtain ⟨j0, hj0, hy0, hy1, hy2⟩ := info_parts infoIs
  obtain ⟨k0, hk0, hx0, hx1, hx2⟩ := info_parts infoInt
  clear h W
  unfold Sch.val
  go_enter Try.func45, Try.ntmps45
  go_wp2_with fail
  go_loopw [4] (fun vi wr => ∃ (i : Nat) (vB : Value), i ≤ s.bs.length ∧ vi = .int .i64 i ∧ TT s a cap w #[vB, nilS, nilS] (rbegs (s.B.take i)) vB nilS nilS 0 0 [] [] wr ∧ Hid ((rbegs (s.B.take i)).length ≤ 1 + 8 * i))
    (fun vi _ => s.bs.length - (intOf vi).toNat)
  case atStart =>
    refine ⟨0, .slice (some ⟨w.heap.size + 1 + 1, 0, none⟩) 1 1, Nat.zero_le _, rfl, ⟨?_, ?_, ?_, ?_, ?_, RowsB.nil _ _ _ _, RowsB.nil _ _ _ _, fun r e => by simp [Value.ownBlock]⟩, Lib.hid (by simp [rbegs])⟩
    · exact (Below.heap_alloc _ _ _ (by simp; omega)).trans ((Below.heap_alloc _ _ _ (by simp; omega)).trans ((Below.heap_alloc _ _ _ (by simp)).trans (heap_new _ _ _ _ rfl)))
    · exact (Below.heap_alloc _ _ _ (by simp)).trans ((Below.heap_alloc _ _ _ (by simp)).trans (heap_new _ _ _ _ (by simp)))
    · exact heap_new _ _ _ _ (by simp)
    · exact (((((Below.refl _ _).alloc (Nat.le_refl _) _).alloc (by simp) _).alloc (by simp; omega) _).alloc (by simp; omega) _)
    · exact ⟨rfl, .inr ⟨w.heap.size + 1 + 1, 1, #[.string ⟨#[]⟩], rfl, by omega, (Below.heap_alloc _ _ _ (by simp)).trans (heap_new _ _ _ _ (by simp)), Nat.le_refl _, by decide, rfl, rfl⟩⟩
  case round =>
    obtain ⟨i, vB, hi, rfl, hT, hlen⟩ := hrel
    have s2 := hT.s2
    by_cases hlt : i < s.bs.length
    · obtain ⟨bb, off, ha, hcell⟩ := HIN.out.strs (by omega)
      have hbb : bb < w.heap.size := World.block_lt_of_cell? w _ (hcell.out i hlt)
      have HCE := Lib.hid (hcell.out i hlt)
      obtain ⟨ban, hban⟩ : ∃ ban, ban = s.bs.getD i ⟨#[]⟩ := ⟨_, rfl⟩
      have hmem : ban ∈ s.bs := by rw [hban, List.getD_eq_getElem?_getD, List.getElem?_eq_getElem hlt]; simp
      obtain ⟨hz1', hz8⟩ := HB8.out ban hmem
      rw [← hban] at HCE
      have hgd : s.B.getD i [] = ban.data.toList := by
        rw [hban, Sch.B, List.getD_eq_getElem?_getD, List.getElem?_map, List.getElem?_eq_getElem hlt, List.getD_eq_getElem?_getD, List.getElem?_eq_getElem hlt]; rfl
      have hsn := rbegs_snoc s.B i (by simpa [Sch.B] using hlt)
      rw [hgd, size_toList] at hsn
      have HSN := Lib.hid hsn
      clear hban hmem hgd hsn hcell
      subst ha
      have hce : wr.cell? ⟨bb, off + i, none⟩ = some (.string ban) := (hT.below.cell hbb).trans HCE.out
      obtain ⟨wo, rfl⟩ : ∃ wo : World, wo = wr := ⟨_, rfl⟩
      go_wp2_with fail
      go_loopw [5] (fun vk wi => ∃ (k : Nat) (vC : Value), 1 ≤ k ∧ k ≤ ban.size ∧ vk = .int .i64 k ∧ TT s (some ⟨bb, off, none⟩) cap w #[vC, nilS, nilS] (addB (rbegs (s.B.take i)) ban.data.toList (k - 1)) vC nilS nilS 0 0 [] [] wi ∧ Hid ((addB (rbegs (s.B.take i)) ban.data.toList (k - 1)).length ≤ 1 + 8 * i + (k - 1)))
        (fun vk _ => ban.size - (intOf vk).toNat)
      case atStart => exact ⟨1, vB, Nat.le_refl _, hz1', rfl, hT, hlen⟩
      case round =>
        clear hT s2 hce hlen
        obtain ⟨k, vC, hk1, hk2, rfl, hTi, hleni⟩ := hrel
        obtain ⟨wz, rfl⟩ : ∃ wz : World, wz = wr := ⟨_, rfl⟩
        obtain ⟨Si, hSi⟩ : ∃ Si, Si = addB (rbegs (s.B.take i)) ban.data.toList (k - 1) := ⟨_, rfl⟩
        have hnext : addB (rbegs (s.B.take i)) ban.data.toList k = preF Si (ban.data.toList.take k) := by
          obtain ⟨m, rfl⟩ : ∃ m, k = m + 1 := ⟨k - 1, by omega⟩
          rw [hSi]; rfl
        rw [← hSi] at hTi hleni
        have HNEXT := Lib.hid hnext
        have HSI := Lib.hid hSi
        have hex : (ban.extract 0 k).data.toList = ban.data.toList.take k := by rw [Lib.extract_data]; simp
        have HEX := Lib.hid hex
        clear hSi hnext hex
        have s2 := hTi.s2
        have hce : wz.cell? ⟨bb, off + i, none⟩ = some (.string ban) := (hTi.below.cell hbb).trans HCE.out
        by_cases hlt2 : k < ban.size
        · obtain ⟨ao, cp, rfl⟩ := owns_shape hTi.beg
          have t0 := hTi.t0
          have t1 := hTi.t1
          have t2 := hTi.t2
          have hSl : Si.length ≤ 1000 := by have := hleni.out; omega
          go_wp2_with fail
          go_still_tail 8, (by kernel_rfl)
          change wpList _ _ _ _ _ wz.drew
          have hTj := hTi.drew
          generalize wz.drew = w2 at *
          clear hTi s2 hce t0 t1 t2
          go_wp2_with fail
          refine (place_ref Si hSl ao cp nilS nilS (ban.extract 0 k) hTj.strs).mono ?_
          rintro e w3 ⟨rfl, hb3⟩
          have hT3 := hTj.next hb3
          clear hTj hb3
          rw [HEX.out]
          unfold plc
          by_cases hin : ban.data.toList.take k ∈ Si
          · rw [numOf_some hin]
            have HN2 : Hid (addB (rbegs (s.B.take i)) ban.data.toList (k + 1 - 1) = Si) := Lib.hid (by
              rw [Nat.add_sub_cancel, HNEXT.out]; unfold preF; rw [if_pos hin])
            clear hin
            simp only [Option.getD_some]
            generalize Si.idxOf (ban.data.toList.take k) = jj
            go_wp2_with fail
            go_roundw
            case rel => exact ⟨k + 1, _, by omega, by omega, by go_num, by rw [HN2.out]; exact hT3, Lib.hid (by have := hleni.out; rw [HN2.out]; omega)⟩
            case measure => simp [intOf]; omega
          · rw [numOf_none hin]
            have HN2 : Hid (addB (rbegs (s.B.take i)) ban.data.toList (k + 1 - 1) = Si ++ [ban.data.toList.take k]) := Lib.hid (by
              rw [Nat.add_sub_cancel, HNEXT.out]; unfold preF; rw [if_neg hin])
            clear hin
            simp only [Option.getD_none]
            have s2 := hT3.s2
            have hce : w3.cell? ⟨bb, off + i, none⟩ = some (.string ban) := (hT3.below.cell hbb).trans HCE.out
            have t0 := hT3.t0
            have f0 := hT3.free 0
            have hbs := hT3.below.size
            have ht3 := lt_of_block hT3.tbox
            have hn1 : Si.length + 1 ≤ maxLen := by unfold maxLen; omega
            go_wp2_with fail
            go_region_law (
              ((refine step_append_lies _ (by rfl) _ _ _ (by rfl) (w.heap.size + 2) 9 i0 _ 1 16 Try.underlying22 hi0 hz0 hz1 hz2 rfl (by omega) (.slice ao Si.length cp) Si.length (Si.map strV) (by rfl) ((hT3.beg.alloc _).drew)
                  ⟨w3.heap.size, 0, none⟩ 1 1 [.string (ban.extract 0 k)] (by rfl) (by rfl) (World.news_of_block (cs := #[.string (ban.extract 0 k)]) (t := 9) (fr := (0, 0)) (heap_alloc_new w3 _)) (by simp [Value.oneCell'])
                  (by omega) hn1 (by omega) (by simp; omega) (w3.heap.size + 1) (by simp) ?_; intro gg cp' w5 hown hgrow hat hlt5; have hT5 := ((hT3.alloc _).drew).growB hgrow (own_snoc HEX.out hown); have hf5 := hT5.free 0; have hc5 := hT5.t0)))
            all_goals
              have hT6 : TT s (some ⟨bb, off, none⟩) cap w #[.slice (some ⟨gg, 0, none⟩) (Si.length + 1) cp', nilS, nilS] (Si ++ [ban.data.toList.take k]) (.slice (some ⟨gg, 0, none⟩) (Si.length + 1) cp') nilS nilS 0 0 [] [] (w5.setCell ⟨w.heap.size + 3, 0, none⟩ (.slice (some ⟨gg, 0, none⟩) (Si.length + 1) cp')) := hT5.put 0 _
              generalize w5.setCell ⟨w.heap.size + 3, 0, none⟩ (.slice (some ⟨gg, 0, none⟩) (Si.length + 1) cp') = w6 at *
              go_wp2
              go_roundw
              case rel => exact ⟨k + 1, _, by omega, by omega, by go_num, by rw [HN2.out]; exact hT6, Lib.hid (by have := hleni.out; rw [HN2.out, List.length_append]; simp only [List.length_cons, List.length_nil]; omega)⟩
              case measure => simp [intOf]; omega
        · obtain rfl : k = ban.size := by omega
          have HLE := hleni
          rw [HSI.out, ← HSN.out] at hTi HLE
          go_wp2_with fail
          go_roundw
          case rel => exact ⟨i + 1, vC, by omega, by go_num, hTi, Lib.hid (by have := HLE.out; omega)⟩
          case measure => simp [intOf]; omega
    · obtain rfl : i = s.bs.length := by omega
      have htk : s.B.take s.bs.length = s.B := List.take_of_length_le (by simp [Sch.B])
      rw [htk] at hT hlen
      have hlen2 := hlen.out
      have hSl : s.S.length ≤ 129 := by
        have : rbegs s.B = s.S := rfl
        rw [this] at hlen2; omega
      have hS0 : 0 < s.S.length := (rbegs_head s.B).1
      have hT0 : TT s a cap w #[vB, nilS, nilS] s.S vB nilS nilS 0 0 [] [] wr := hT
      clear hT hlen hlen2 htk hlt s2
      obtain ⟨ao, cp, rfl⟩ := owns_shape hT0.beg
      obtain ⟨g, rfl, _⟩ := strs_of_owns hT0.beg hS0
      obtain ⟨N, hN⟩ : ∃ N, N = s.S.length := ⟨_, rfl⟩
      have HN := Lib.hid hN
      obtain ⟨wo, rfl⟩ : ∃ wo : World, wo = wr := ⟨_, rfl⟩
      have s2 := hT0.s2
      have t0 := hT0.t0
      have ht3 := lt_of_block hT0.tbox
      rw [← hN] at t0 hSl hS0
      clear hN
      go_wp2_with (at_make; refine wpList_make_full _ rfl _ _ 67 rfl (w.heap.size + 4) 3 k0 (.int .i64 0) 1 Try.underlying67 hk0 hx0 hx1 .i64 .i64 _ _ N rfl rfl rfl rfl (by rw [hx2]; omega) (by unfold maxLen; omega) (by omega) ?_)
      intro w1 hones hg1
      rw [made_ints N (onesF 0) (fun i _ => by unfold onesF; rw [if_neg (by omega)])] at hones
      have hT1 := hT0.grown hg1 (by intro r e; cases e)
      obtain ⟨O, hO⟩ : ∃ O, O = wo.heap.size := ⟨_, rfl⟩
      rw [← hO] at hones
      have hO4 : w.heap.size + 4 ≤ O := by omega
      have HONES : Hid (w1.ownsRow (w.heap.size + 4) 3 1 (.slice (some ⟨O, 0, none⟩) N N) N (onesV N 0)) := Lib.hid hones
      rw [← hO]
      clear hT0 s2 t0 ht3 hO hones hg1
      go_wp2_with fail
      go_loopw [7] (fun vi wr => ∃ (k : Nat) (vN : Value) (rs : List (Nat × Nat)), k ≤ N ∧ vi = .int .i64 k ∧ TT s a cap w #[.slice (some ⟨g, 0, none⟩) N cp, vN, nilS] s.S (.slice (some ⟨g, 0, none⟩) s.S.length cp) vN nilS k 0 rs [] wr ∧ Hid (wr.ownsRow (w.heap.size + 4) 3 1 (.slice (some ⟨O, 0, none⟩) N N) N (onesV N k)) ∧ Hid (∀ i, i < k → O ≠ (rs.getD i (0, 0)).1))
        (fun vi _ => N - (intOf vi).toNat)
      case atStart => exact ⟨0, nilS, [], Nat.zero_le _, rfl, by rw [HN.out]; exact hT1, HONES, Lib.hid (fun i hi => by omega)⟩
      case round =>
        clear hT1 HONES
        obtain ⟨k, vN, rs, hk, rfl, hT, hones, hap⟩ := hrel
        obtain ⟨wi, rfl⟩ : ∃ wi : World, wi = wr := ⟨_, rfl⟩
        have t0 := hT.t0
        by_cases hlt : k < N
        · have s0 := hT.s0
          go_wp2_with fail
          go_loopw [8, 9] (fun vr vc wx => ∃ c : Nat, c ≤ s.A.size ∧ vc = .int .i64 c ∧ Below wi.heap.size wi wx ∧ Hid (wx.ownsRow wi.heap.size 3 1 vr c ((List.range c).map fun v => Value.int .i64 (s.rx k v))))
            (fun _ vc _ => s.A.size - (intOf vc).toNat)
          case atStart => exact ⟨0, Nat.zero_le _, rfl, Below.refl _ _, Lib.hid (World.ownsRow_nil _ _ _ _)⟩
          case round =>
            obtain ⟨c, hc, rfl, hbel, hrow⟩ := hrel
            obtain ⟨wx, rfl⟩ : ∃ wx : World, wx = wr := ⟨_, rfl⟩
            have hTx := hT.next hbel
            clear s0 t0
            have t0 := hTx.t0
            have t1 := hTx.t1
            have t2 := hTx.t2
            have s0 := hTx.s0
            have s1 := hTx.s1
            have s2 := hTx.s2
            have s3 := hTx.s3
            by_cases hlt2 : c < s.A.size
            · have hbc := hTx.bcell (i := k) (by rw [← HN.out]; exact hlt)
              obtain ⟨st, hst⟩ : ∃ st, st = mkB (s.S.getD k []) := ⟨_, rfl⟩
              rw [← hst] at hbc
              have hsz : st.size ≤ 8 := by
                have hmem : s.S.getD k [] ∈ rbegs s.B := by
                  rw [List.getD_eq_getElem?_getD, List.getElem?_eq_getElem (by rw [← HN.out]; exact hlt)]
                  exact List.getElem_mem _
                have hl : st.size = (s.S.getD k []).length := by rw [hst]; rfl
                rw [hl]
                rcases (rbegs_mem _ _).1 hmem with h1 | ⟨b, hb, j, _, hj, h1⟩
                · rw [h1]; simp
                · obtain ⟨b0, hb0, rfl⟩ := List.mem_map.1 hb
                  have := (HB8.out b0 hb0).2
                  rw [h1, List.length_take]
                  rw [size_toList] at hj ⊢
                  omega
              have hud : (st ++ s.A.extract c (c + 1)).data.toList = s.S.getD k [] ++ [s.A.data.toList.getD c 0] := by
                rw [app_data, extract_one s.A c hlt2, hst, mkB_data]
              have hus : (st ++ s.A.extract c (c + 1)).size ≤ 1000 := by
                have hl : st.size = (s.S.getD k []).length := by rw [hst]; rfl
                rw [← size_toList, hud, List.length_append, ← hl]
                simp only [List.length_cons, List.length_nil]; omega
              have hcall : ∀ wq : World, s.In wq a → StrsAt wq (some ⟨g, 0, none⟩) (s.S.map mkB) → Calls Try.prog 64 #[.agg #[.slice (some ⟨g, 0, none⟩) N cp, vN, nilS], s.val a cap, .string (st ++ s.A.extract c (c + 1))] wq (fun e w' => e = .returned (.int .i64 (s.rx k c)) ∧ Below wq.heap.size wq w') := by
                intro wq h1 h2
                have := step_ref (cap := cap) h1 s.S (by rw [← HN.out]; omega) (some ⟨g, 0, none⟩) cp vN nilS (st ++ s.A.extract c (c + 1)) hus (fun b hb => by have := (HB8.out b hb).2; omega) h2
                rw [← HN.out, hud] at this
                exact this
              unfold Sch.val at hcall
              have HCALL := Lib.hid hcall
              have hcs := hbel.size
              have hsum : st.size + (s.A.extract c (c + 1)).size ≤ 9223372036854775807 := by
                rw [ByteArray.size_append] at hus; omega
              have hadd : ∀ wq : World, (Op.stringOp .add st (s.A.extract c (c + 1))).run Try.prog wq = .ok (.string (st ++ s.A.extract c (c + 1))) wq := fun wq => run_string_add_sum wq _ _ hsum
              clear hst hud hus hcall
              have hc0 : (0 : Int) ≤ (c : Int) := Int.natCast_nonneg _
              have hk0' : (0 : Int) ≤ (k : Int) := Int.natCast_nonneg _
              have hkN : (k : Int) < (N : Int) := by omega
              have hc1 : (c : Int) + 1 ≤ (s.A.size : Int) := by omega
              have hc1w : IntKind.i64.wrap ((c : Int) + 1) = (c : Int) + 1 := IntWalk.i64_in _ (by omega)
              have hcm : c + 1 ≤ maxLen := by unfold maxLen; omega
              have hc2 : (c : Int) ≤ (c : Int) + 1 := by omega
              have hc3 : (0 : Int) ≤ (c : Int) + 1 := by omega
              have hc4 : ((c : Int) + 1).toNat = c + 1 := by omega
              go_wp2_with fail
              go_region_held3 (fun x => x.cell? ⟨w.heap.size + 3, 0, none⟩ = some (.slice (some ⟨g, 0, none⟩) N cp) ∧ x.cell? ⟨w.heap.size + 3, 1, none⟩ = some vN ∧ x.cell? ⟨w.heap.size + 3, 2, none⟩ = some nilS ∧
                  x.cell? ⟨w.heap.size, 0, none⟩ = some (.string s.A) ∧ x.cell? ⟨w.heap.size, 1, none⟩ = some (.int .i64 s.L) ∧ x.cell? ⟨w.heap.size, 2, none⟩ = some (.slice a s.bs.length cap) ∧ x.cell? ⟨w.heap.size, 3, none⟩ = some (.bool s.chk) ∧ x.cell? ⟨g, k, none⟩ = some (.string st))
                (first
                  | exact ⟨hT5.t0, hT5.t1, hT5.t2, hT5.s0, hT5.s1, hT5.s2, hT5.s3, hbc5⟩
                  | exact ⟨(hT4.alloc _).t0, (hT4.alloc _).t1, (hT4.alloc _).t2, (hT4.alloc _).s0, (hT4.alloc _).s1, (hT4.alloc _).s2, (hT4.alloc _).s3, cell_alloc hbc4 _⟩
                  | exact ⟨hT4.t0, hT4.t1, hT4.t2, hT4.s0, hT4.s1, hT4.s2, hT4.s3, hbc4⟩
                  | exact ⟨t0, t1, t2, s0, s1, s2, s3, hbc⟩)
                ((first
                  | (go_at_call 64
                     refine (HCALL.out _ (hTx.drew.in_ HIN.out) hTx.drew.strs).mono ?_
                     rintro e w4 ⟨rfl, hb4⟩
                     have hb4' := hbel.drew.trans (hb4.mono hcs)
                     have hs4 := hb4'.size
                     have hT4 := hT.next hb4'
                     have hbc4 := (hb4.cell (World.block_lt_of_cell? wx _ hbc)).trans hbc
                     have hr4 := kept_ne hrow.out.drew (grown_below hb4 none) (by intro r e; cases e))
                  | (refine step_append_lies _ (by rfl) _ _ _ (by rfl) wi.heap.size 3 k0 _ 1 8 Try.underlying67 hk0 hx0 hx1 hx2 rfl (by omega) _ c _ (by rfl) (hr4.alloc _)
                      ⟨w4.heap.size, 0, none⟩ 1 1 [.int .i64 (s.rx k c)] (by rfl) (by rfl) (World.news_of_block (cs := #[.int .i64 (s.rx k c)]) (t := 3) (fr := (0, 0)) (heap_alloc_new w4 _)) (by simp [Value.oneCell'])
                      (by omega) hcm (by omega) (by simp; omega) (w4.heap.size + 1) (by simp) ?_
                     intro gg cp' w5 hown hgrow hat hlt5
                     have hb5 := (hb4'.alloc hs4 (.cells #[.int .i64 (s.rx k c)] 3)).grown hgrow (by simp; omega) (fun r e => (hr4.lt r e).1)
                     have hT5 := hT.next hb5
                     have hbc5 := (hgrow.cell_far ⟨g, k, none⟩ (by have := World.block_lt_of_cell? w4 _ hbc4; simp at this ⊢; omega) (fun e => by have q1 : wi.heap.size ≤ g := (hr4.lt _ e.symm).1; have q2 : g < wi.heap.size := World.block_lt_of_cell? wi _ (hT.bcell (i := k) (by rw [← HN.out]; exact hlt)); omega)).trans (cell_alloc hbc4 _))))
              go_wp2
              go_roundw
              case rel => exact ⟨c + 1, by omega, by go_num, hb5, Lib.hid (by rw [List.range_succ, List.map_append]; exact hown)⟩
              case measure => simp [intOf]; omega
            · obtain rfl : c = s.A.size := by omega
              obtain ⟨gr, cr, rfl, hgr, hgr2⟩ := hrow.out.form (by omega)
              have HRow : Hid (RowB (wx.alloc (.cells #[.slice (some ⟨gr, 0, none⟩) s.A.size cr] 67)) gr s.A.size (s.rx k)) := Lib.hid (RowB.of_owns (hrow.out.alloc _))
              have HON2 := Lib.hid (kept_ne hones.out (grown_below hbel none) (by intro r e; cases e))
              have hxs := lt_of_block hTx.tbox
              have f1 := hTx.free 1
              have hkm : k + 1 ≤ maxLen := by unfold maxLen; omega
              go_wp2_with (at_builtin; refine wpList_append_lies _ rfl _ _ 27 rfl (w.heap.size + 4) 67 j0 (.slice none 0 0) 1 24 Try.underlying27 hj0 hy0 hy1 hy2 rfl (by decide) vN k (rowVs s.A.size rs) rfl (hTx.nx.own.alloc _) ⟨wx.heap.size, 0, none⟩ 1 1 [.slice (some ⟨gr, 0, none⟩) s.A.size cr] rfl rfl (World.news_of_block (cs := #[.slice (some ⟨gr, 0, none⟩) s.A.size cr]) (t := 67) (fr := (0, 0)) (heap_alloc_new wx _)) (by simp [Value.oneCell']) (by omega) hkm (by omega) (by simp; omega) (wx.heap.size + 1) (by simp) ?_; intro gN cN w5 hown hgrow hat hlt5; have hT5 := (hTx.alloc _).growN (p := (gr, cr)) hgrow hown HRow.out; have f5 := hT5.free 1; have c5 := hT5.t1; have hon5 := kept_ne (HON2.out.alloc (.cells #[.slice (some ⟨gr, 0, none⟩) s.A.size cr] 67)) hgrow (by intro r e; obtain ⟨C', h1⟩ := owns_tag (hTx.nx.own.alloc (.cells #[.slice (some ⟨gr, 0, none⟩) s.A.size cr] 67)) e; exact owns_far (HON2.out.alloc _) h1 (by decide)); have hon6 := kept_ne hon5 (grown_setCell w5 ⟨w.heap.size + 1 + 1 + 1, 1, none⟩ (.slice (some ⟨gN, 0, none⟩) (k + 1) cN)) (by intro r e; injection e with e; subst e; exact owns_far hon5 hT5.tbox (by decide)); have o1 := (hon6.cellAt k (by omega)).trans (ones_get hlt); have o2 := hon6.frozenAt k; have HON6 := Lib.hid hon6; clear hon5 hon6)
              have hT6 : TT s a cap w #[.slice (some ⟨g, 0, none⟩) N cp, .slice (some ⟨gN, 0, none⟩) (k + 1) cN, nilS] s.S (.slice (some ⟨g, 0, none⟩) s.S.length cp) (.slice (some ⟨gN, 0, none⟩) (k + 1) cN) nilS (k + 1) 0 (rs ++ [(gr, cr)]) [] (w5.setCell ⟨w.heap.size + 1 + 1 + 1, 1, none⟩ (.slice (some ⟨gN, 0, none⟩) (k + 1) cN)) := hT5.put 1 _
              have hOlt : O < wi.heap.size := (hones.out.lt O rfl).2
              have hrl := hT.nx.len
              have hap2 : ∀ i, i < k + 1 → O ≠ ((rs ++ [(gr, cr)]).getD i (0, 0)).1 := by
                intro i hi
                by_cases hik : i < k
                · rw [List.getD_eq_getElem?_getD, List.getElem?_append_left (by omega), ← List.getD_eq_getElem?_getD]
                  exact hap.out i hik
                · obtain rfl : i = k := by omega
                  rw [List.getD_eq_getElem?_getD, List.getElem?_append_right (by omega), hrl, Nat.sub_self]
                  show O ≠ gr
                  omega
              have HAP := Lib.hid hap2
              have hT7 := hT6.grown (grown_setCell _ ⟨O, k, none⟩ (.int .i64 1)) (by
                intro r e
                injection e with e
                subst e
                obtain ⟨C6, h6⟩ := owns_tag HON6.out (r := O) rfl
                exact ⟨hO4, owns_far hT6.beg h6 (by decide), owns_far hT6.nx.own h6 (by decide), by simp [Value.ownBlock], HAP.out, fun i hi => by omega⟩)
              have hon7 := (HON6.out.stored k (.int .i64 1)).1
              rw [ones_set] at hon7
              have HON7 := Lib.hid hon7
              clear hT6 hap2 hon7
              go_wp2_with fail
              go_roundw
              case rel => exact ⟨k + 1, _, _, by omega, by go_num, hT7, HON7, HAP⟩
              case measure => simp [intOf]; omega
        · obtain rfl : N = k := by omega
          have hN := HN.out
          subst hN
          have hrow0 : RowB wi O s.S.length (fun i => (s.rw_ 0 i : Int)) := (RowB.of_owns (f := onesF s.S.length) hones.out).congr (fun i hi => by unfold onesF; rw [if_pos hi]; rfl)
          obtain ⟨gN, cN, rfl, _, _⟩ := hT.nx.own.form hS0
          have hlt4 := lt_of_block hT.tbox
          have hTa := hT.growW (w' := wi.alloc (.cells #[.slice (some ⟨O, 0, none⟩) s.S.length s.S.length] 67)) (g := wi.heap.size) (cp := 1) (p := (O, s.S.length)) (World.grownBy_alloc _ _ _) (World.ownsRow_lit wi #[.slice (some ⟨O, 0, none⟩) s.S.length s.S.length] 1 (by omega) (by decide) rfl) (.inr (Nat.le_refl _)) hrow0
          have f2 := hTa.free 2
          have c2 := hTa.t2
          have hTp := hT.put 2 (.slice (some ⟨wi.heap.size, 0, none⟩) 1 1)
          have hrow1 := hrow0.kept (grown_setCell wi ⟨w.heap.size + 3, 2, none⟩ (.slice (some ⟨wi.heap.size, 0, none⟩) 1 1)) (by intro r e; injection e with e; subst e; exact hrow0.far hT.tbox (by decide))
          have hsz : (wi.setCell ⟨w.heap.size + 3, 2, none⟩ (.slice (some ⟨wi.heap.size, 0, none⟩) 1 1)).heap.size = wi.heap.size := by simp
          have hlit := World.ownsRow_lit (base := w.heap.size + 4) (e := 67) (size := 1) (wi.setCell ⟨w.heap.size + 3, 2, none⟩ (.slice (some ⟨wi.heap.size, 0, none⟩) 1 1)) #[.slice (some ⟨O, 0, none⟩) s.S.length s.S.length] 1 (by rw [hsz]; omega) (by decide) rfl
          rw [hsz] at hlit
          have hTb : TT s a cap w #[.slice (some ⟨g, 0, none⟩) s.S.length cp, .slice (some ⟨gN, 0, none⟩) s.S.length cN, .slice (some ⟨wi.heap.size, 0, none⟩) 1 1] s.S (.slice (some ⟨g, 0, none⟩) s.S.length cp) (.slice (some ⟨gN, 0, none⟩) s.S.length cN) (.slice (some ⟨wi.heap.size, 0, none⟩) 1 1) s.S.length 1 rs [(O, s.S.length)] ((wi.setCell ⟨w.heap.size + 1 + 1 + 1, 2, none⟩ (.slice (some ⟨wi.heap.size, 0, none⟩) 1 1)).alloc (.cells #[.slice (some ⟨O, 0, none⟩) s.S.length s.S.length] 67)) :=
            hTp.growW (g := wi.heap.size) (cp := 1) (p := (O, s.S.length)) (World.grownBy_alloc _ _ _) hlit (.inr (by rw [hsz]; exact Nat.le_refl _)) hrow1
          clear hTp hrow1 hsz hlit
          have HTB := Lib.hid hTb
          clear hTb hrow0 hT hones hap
          go_wp2_with fail
          clear f2 c2 hTa t0
          go_loopw [10] (fun vi wr => ∃ (n : Nat) (vW : Value) (qs : List (Nat × Nat)), n ≤ s.L.toNat ∧ vi = .int .i64 ((n + 1 : Nat) : Int) ∧ TT s a cap w #[.slice (some ⟨g, 0, none⟩) s.S.length cp, .slice (some ⟨gN, 0, none⟩) s.S.length cN, vW] s.S (.slice (some ⟨g, 0, none⟩) s.S.length cp) (.slice (some ⟨gN, 0, none⟩) s.S.length cN) vW s.S.length (n + 1) rs qs wr)
            (fun vi _ => s.L.toNat + 1 - (intOf vi).toNat)
          case atStart => exact ⟨0, _, _, Nat.zero_le _, rfl, HTB.out⟩
          case round =>
            clear HTB
            obtain ⟨n, vW, qs, hn, rfl, hT2⟩ := hrel
            obtain ⟨wj, rfl⟩ : ∃ wj : World, wj = wr := ⟨_, rfl⟩
            have s1 := hT2.s1
            have t0 := hT2.t0
            by_cases hltn : n < s.L.toNat
            · have hjs := lt_of_block hT2.tbox
              obtain ⟨gW, cW, rfl, _, _⟩ := hT2.wy.own.form (by omega)
              go_wp2_with (at_make; refine wpList_make_full _ rfl _ _ 67 rfl wj.heap.size 3 k0 (.int .i64 0) 1 Try.underlying67 hk0 hx0 hx1 .i64 .i64 _ _ s.S.length rfl rfl rfl rfl (by rw [hx2]; omega) (by unfold maxLen; omega) (Nat.le_refl _) ?_)
              intro w1 hrow1 hg1
              rw [made_ints s.S.length (fun j => (midF s n 0 0 j : Int)) (fun j _ => mid_zero s n j)] at hrow1
              have HROW1 : Hid (w1.ownsRow wj.heap.size 3 1 (.slice (some ⟨wj.heap.size, 0, none⟩) s.S.length s.S.length) s.S.length (midV s s.S.length n 0 0)) := Lib.hid hrow1
              have hbel1 : Below wj.heap.size wj w1 := (Below.refl _ _).grown hg1 (Nat.le_refl _) (by intro r e; cases e)
              clear hrow1 hg1 s1 t0
              go_wp2_with fail
              go_loopw [12] (fun vi wx => ∃ i : Nat, i ≤ s.S.length ∧ vi = .int .i64 i ∧ Below wj.heap.size wj wx ∧ Hid (wx.ownsRow wj.heap.size 3 1 (.slice (some ⟨wj.heap.size, 0, none⟩) s.S.length s.S.length) s.S.length (midV s s.S.length n i 0)))
                (fun vi _ => s.S.length - (intOf vi).toNat)
              case atStart => exact ⟨0, Nat.zero_le _, rfl, hbel1, HROW1⟩
              case round =>
                clear hbel1 HROW1
                obtain ⟨i, hi, rfl, hbel, hrow⟩ := hrel
                obtain ⟨wx, rfl⟩ : ∃ wx : World, wx = wr := ⟨_, rfl⟩
                have hTx := hT2.next hbel
                have t0 := hTx.t0
                by_cases hlti : i < s.S.length
                · have s0 := hTx.s0
                  go_wp2_with fail
                  go_loopw [13] (fun vc wy => ∃ c : Nat, c ≤ s.A.size ∧ vc = .int .i64 c ∧ Below wj.heap.size wj wy ∧ Hid (wy.ownsRow wj.heap.size 3 1 (.slice (some ⟨wj.heap.size, 0, none⟩) s.S.length s.S.length) s.S.length (midV s s.S.length n i c)))
                    (fun vc _ => s.A.size - (intOf vc).toNat)
                  case atStart => exact ⟨0, Nat.zero_le _, rfl, hbel, hrow⟩
                  case round =>
                    clear hbel hrow hTx t0 s0
                    obtain ⟨c, hc, rfl, hbel, hrow⟩ := hrel
                    obtain ⟨wz, rfl⟩ : ∃ wz : World, wz = wr := ⟨_, rfl⟩
                    have hTy := hT2.next hbel
                    have s0 := hTy.s0
                    by_cases hltc : c < s.A.size
                    · have t1 := hTy.t1
                      have e1 := hTy.nx.cell hlti
                      have e2 := (hTy.nx.rows i hlti).cell hltc
                      generalize (rs.getD i (0, 0)).1 = fi at e1 e2
                      generalize (rs.getD i (0, 0)).2 = ci at e1
                      rcases Sch.rx_cases (s := s) i c with hx | ⟨j, hj, hx⟩
                      · rw [hx] at e2
                        have HRT := Lib.hid (Sch.rt_none (s := s) (i := i) (v := c) (by rw [hx]; decide))
                        clear hx
                        go_wp2_with fail
                        go_roundw
                        case rel => exact ⟨c + 1, by omega, by go_num, hbel, Lib.hid (by rw [← mid_skip HRT.out]; exact hrow.out)⟩
                        case measure => simp [intOf]; omega
                      · rw [hx] at e2
                        have HRT := Lib.hid (Sch.rt_some (s := s) hx)
                        clear hx
                        have t2 := hTy.t2
                        have e3 := hTy.wy.cell (i := n) (by omega)
                        have e4 := (hTy.wy.rows n (by omega)).cell hj
                        generalize (qs.getD n (0, 0)).1 = hh at e3 e4
                        generalize (qs.getD n (0, 0)).2 = hcn at e3
                        have e5 := (hrow.out.cellAt i (by omega)).trans (mid_get hlti)
                        obtain ⟨m1, hm1⟩ : ∃ m1, m1 = n + 1 := ⟨_, rfl⟩
                        rw [← hm1] at t2
                        have hnm1 : n < m1 := by omega
                        have hnm2 : (n : Int) < (m1 : Int) := by omega
                        clear hm1
                        have hp1 : s.rpart n i c ≤ 1099511627777 := s.rpart_le n i c
                        have hp2 : s.rw_ n j ≤ 1099511627777 := s.rw_le n j
                        have HMS := Lib.hid (int_min (s.rpart n i c) (s.rw_ n j))
                        have HMS2 := Lib.hid (mid_set (N := s.S.length) (n := n) HRT.out)
                        generalize s.rpart n i c = pp at *
                        generalize s.rw_ n j = ww at *
                        go_wp2_with fail
                        have hw1 : IntKind.i64.wrap (n : Int) = (n : Int) := IntWalk.i64_in _ (by omega)
                        have hw2 : IntKind.i64.wrap ((n : Int) + 1 - 1) = (n : Int) := by rw [show (n : Int) + 1 - 1 = (n : Int) by omega]; exact hw1
                        have hw3 : IntKind.i64.wrap ((pp : Int) + (ww : Int)) = (pp : Int) + (ww : Int) := IntWalk.i64_in _ (by omega)
                        go_still_tail 25, (by kernel_rfl)
                        change wpList _ _ _ _ _ wz.drew
                        have hrowd : wz.drew.ownsRow wj.heap.size 3 1 (.slice (some ⟨wj.heap.size, 0, none⟩) s.S.length s.S.length) s.S.length (midV s s.S.length n i c) := hrow.out
                        have e6 : wz.drew.cell? ⟨wj.heap.size, i, none⟩ = some (.int .i64 (pp : Int)) := e5
                        have f6 := hrowd.frozenAt i
                        have hrow7 := (hrowd.stored i (.int .i64 ((min (pp + ww) capM : Nat) : Int))).1
                        have hbel7 := hbel.drew.setCell (p := ⟨wj.heap.size, i, none⟩) (Nat.le_refl _) (.int .i64 ((min (pp + ww) capM : Nat) : Int))
                        rw [HMS2.out, ← HMS.out] at hrow7
                        rw [← HMS.out] at hbel7
                        have HR7 := Lib.hid hrow7
                        have HB7 := Lib.hid hbel7
                        clear hw1 hw2 hw3 hrowd hrow7 hbel7 e1 e2 e3 e4 e5
                        generalize wz.drew = w2 at *
                        go_wp2_with fail
                        go_roundw
                        case rel => exact ⟨c + 1, by omega, by go_num, HB7.out, HR7⟩
                        case measure => simp [intOf]; omega
                    · obtain rfl : c = s.A.size := by omega
                      go_wp2_with fail
                      go_roundw
                      case rel => exact ⟨i + 1, by omega, by go_num, hbel, Lib.hid (by rw [← mid_next]; exact hrow.out)⟩
                      case measure => simp [intOf]; omega
                · obtain rfl : i = s.S.length := by omega
                  have hrowF := hrow.out
                  rw [mid_full] at hrowF
                  have HRow : Hid (RowB (wx.alloc (.cells #[.slice (some ⟨wj.heap.size, 0, none⟩) s.S.length s.S.length] 67)) wj.heap.size s.S.length (fun j => (s.rw_ (n + 1) j : Int))) := Lib.hid (RowB.of_owns (hrowF.alloc _))
                  clear hrowF
                  have hxs := lt_of_block hTx.tbox
                  have t2 := hTx.t2
                  have f2 := hTx.free 2
                  have hnm : n + 1 + 1 ≤ maxLen := by unfold maxLen; omega
                  go_wp2_with (at_builtin; refine wpList_append_lies _ rfl _ _ 27 rfl (w.heap.size + 4) 67 j0 (.slice none 0 0) 1 24 Try.underlying27 hj0 hy0 hy1 hy2 rfl (by decide) _ (n + 1) (rowVs s.S.length qs) rfl (hTx.wy.own.alloc _) ⟨wx.heap.size, 0, none⟩ 1 1 [.slice (some ⟨wj.heap.size, 0, none⟩) s.S.length s.S.length] rfl rfl (World.news_of_block (cs := #[.slice (some ⟨wj.heap.size, 0, none⟩) s.S.length s.S.length]) (t := 67) (fr := (0, 0)) (heap_alloc_new wx _)) (by simp [Value.oneCell']) (by omega) hnm (by omega) (by simp; omega) (wx.heap.size + 1) (by simp) ?_; intro gW2 cW2 w5 hown hgrow hat hlt5; have hT5 := (hTx.alloc _).growW (p := (wj.heap.size, s.S.length)) hgrow hown (by rcases hat with h1 | h1; exact .inl h1; exact .inr (by rw [h1]; simp)) HRow.out; have f5 := hT5.free 2; have c5 := hT5.t2)
                  have hT6 : TT s a cap w #[.slice (some ⟨g, 0, none⟩) s.S.length cp, .slice (some ⟨gN, 0, none⟩) s.S.length cN, .slice (some ⟨gW2, 0, none⟩) (n + 1 + 1) cW2] s.S (.slice (some ⟨g, 0, none⟩) s.S.length cp) (.slice (some ⟨gN, 0, none⟩) s.S.length cN) (.slice (some ⟨gW2, 0, none⟩) (n + 1 + 1) cW2) s.S.length (n + 1 + 1) rs (qs ++ [(wj.heap.size, s.S.length)]) (w5.setCell ⟨w.heap.size + 1 + 1 + 1, 2, none⟩ (.slice (some ⟨gW2, 0, none⟩) (n + 1 + 1) cW2)) := hT5.put 2 _
                  go_roundw
                  case rel => exact ⟨n + 1, _, _, by omega, by go_num, hT6⟩
                  case measure => simp [intOf]; omega
            · obtain rfl : n = s.L.toNat := by omega
              obtain ⟨gW, cW, rfl, _, _⟩ := hT2.wy.own.form (by omega)
              have t1 := hT2.t1
              have t2 := hT2.t2
              have r0 : wj.cell? ⟨w.heap.size + 1, 0, none⟩ = some (.slice none 0 0) := cell_of_block hT2.res 0
              have r1 : wj.cell? ⟨w.heap.size + 1, 1, none⟩ = some (.slice none 0 0) := cell_of_block hT2.res 1
              have r2 : wj.cell? ⟨w.heap.size + 1, 2, none⟩ = some (.slice none 0 0) := cell_of_block hT2.res 2
              have g0 := free_block hT2.res 0
              have g1 := free_block hT2.res 1
              have g2 := free_block hT2.res 2
              go_wp2_with fail
              have q1 := block_setCell hT2.res 0 (.slice (some ⟨g, 0, none⟩) s.S.length cp)
              have q2 := block_setCell q1 1 (.slice (some ⟨gN, 0, none⟩) s.S.length cN)
              have q3 := block_setCell q2 2 (.slice (some ⟨gW, 0, none⟩) (s.L.toNat + 1) cW)
              have hG := grown_trans (grown_trans (grown_setCell wj ⟨w.heap.size + 1, 0, none⟩ (.slice (some ⟨g, 0, none⟩) s.S.length cp)) (grown_setCell _ ⟨w.heap.size + 1, 1, none⟩ (.slice (some ⟨gN, 0, none⟩) s.S.length cN))) (grown_setCell _ ⟨w.heap.size + 1, 2, none⟩ (.slice (some ⟨gW, 0, none⟩) (s.L.toNat + 1) cW))
              generalize ((wj.setCell ⟨w.heap.size + 1, 0, none⟩ (.slice (some ⟨g, 0, none⟩) s.S.length cp)).setCell ⟨w.heap.size + 1, 1, none⟩ (.slice (some ⟨gN, 0, none⟩) s.S.length cN)).setCell ⟨w.heap.size + 1, 2, none⟩ (.slice (some ⟨gW, 0, none⟩) (s.L.toNat + 1) cW) = W3 at *
              have hr : ∀ r, some (w.heap.size + 1) = some r → r = w.heap.size + 1 := fun r e => by injection e with e; exact e.symm
              have hbeg := kept_ne hT2.beg hG (fun r e => by rw [hr r e]; exact owns_far hT2.beg hT2.res (by decide))
              have hnx := hT2.nx.kept hG (fun r e => by rw [hr r e]; exact owns_far hT2.nx.own hT2.res (by decide)) (fun r e i hi => by rw [hr r e]; exact (hT2.nx.rows i hi).far hT2.res (by decide))
              have hwy := hT2.wy.kept hG (fun r e => by rw [hr r e]; exact owns_far hT2.wy.own hT2.res (by decide)) (fun r e i hi => by rw [hr r e]; exact (hT2.wy.rows i hi).far hT2.res (by decide))
              rw [strs_map] at hbeg
              have hml : (s.S.map mkB).length = s.S.length := by simp
              rw [← hml] at hbeg
              have hst := strsAt_own hbeg
              have HP : Hid (TablePost s w (.returned (RMem.val ⟨some ⟨g, 0, none⟩, cp, gN, cN, gW, cW, rs, qs⟩ s)) W3) := Lib.hid ⟨_, rfl, ⟨hst, Lib.hid ⟨fun i hi => hnx.cell hi, fun i hi v hv => (hnx.rows i hi).cell hv⟩, Lib.hid ⟨fun i hi => hwy.cell hi, fun i hi v hv => (hwy.rows i hi).cell hv⟩⟩, hT2.below.grown hG hT2.below.size (fun r e => by have := hr r e; omega)⟩
              have hcs : W3.heap[w.heap.size + 1]? = some (.cells #[.slice (some ⟨g, 0, none⟩) s.S.length cp, .slice (some ⟨gN, 0, none⟩) s.S.length cN, .slice (some ⟨gW, 0, none⟩) (s.L.toNat + 1) cW] 29 (0, 0)) := q3
              clear q1 q2 q3 hG hr hbeg hnx hwy hml hst
              refine bodyPost_ret (results_cell_row rfl _ _ _ _ _ _ _ rfl hcs Try.underlying29 rfl infoRows) rfl ?_
              exact HP.out
end
end Go.Proofs.Yteleehldcpjndaa
