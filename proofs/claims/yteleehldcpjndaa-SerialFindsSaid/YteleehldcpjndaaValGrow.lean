/- The contracts that the sort's closure needs: values with its draws, slices.Compare at ints, and the closure itself. Condition: the scheme is in memory, the strings are of its alphabet. -/
import Derived.Test.YteleehldcpjndaaRefO
import Derived.Test.YteleehldcpjndaaSort
import Derived.Lib.QuietBelow
import Derived.Deep.RegionHeld3
namespace Go.Proofs.Yteleehldcpjndaa
open Go Go.RowKit

/-- an append asks the tape, if at all, once more -/
theorem append_drawn {P : Program} (w : World) (base : Nat) (t ty e : TypeId) (i : TypeInfo) (z : Value) (size bytes : Nat) (ht : P.underlying t = some (.slice e)) (hi : P.info? e = some i) (hz : i.zero = some z)
    (hsize : i.size = size) (hby : i.bytes = bytes) (hzs : z.cells.size = size)
    (v : Value) (n : Nat) (xs : List Value) (hown : w.ownsRow base e size v n xs)
    (a : Addr) (m c : Nat) (news : List Value) (hm : 0 < m) (hl : news.length = m * size) (hnews : ∀ j u, news[j]? = some u → w.cell? (a.add j) = some u) (h1 : ∀ u ∈ news, u.oneCell' = true)
    (h63 : n + m ≤ maxLen) (hbytes : (n + m) * bytes ≤ 140737488355328) (v' : Value) (w' : World)
    (hr : (Builtin.append_ #[t, t] ty #[v, .slice (some a) m c]).run P w = .ok v' w') : w.drawn ≤ w'.drawn := by
  subst hsize
  subst hby
  have hsmall : n + m ≤ 9223372036854775807 := by simp only [maxLen] at h63; omega
  rcases hown.2 with ⟨rfl, rfl⟩ | ⟨g, cap, cur, rfl, hbg, hg, hnc, hcm, hcs, htake⟩
  · have hr2 := run_append_nil (P := P) w t ty e i z ht hi hz a m c news hl hnews hm (by omega) (by have hb := hbytes; simp only [Nat.zero_add] at hb; omega)
    rw [hr2] at hr
    injection hr with _ h2
    rw [← h2]; simp
  · by_cases hroom : n + m ≤ cap
    · have hfit : n * i.size + news.length ≤ cur.size := by rw [hl, hcs, ← Nat.add_mul]; exact Nat.mul_le_mul_right _ hroom
      have hr2 := run_append_room (P := P) w t ty e i ht hi g n cap cur hg a m c news hl hnews h1 hroom hfit
      rw [hr2] at hr
      injection hr with _ h2
      rw [← h2]; simp
    · have holds : ∀ j u, xs[j]? = some u → w.cell? ((⟨g, 0, none⟩ : Addr).add j) = some u := hown.cells (g := g) rfl
      have hr2 := run_append_grow (P := P) w t ty e i z ht hi hz ⟨g, 0, none⟩ n cap xs hown.1 holds a m c news hl hnews (by omega) (by omega) (growslice_fits (by omega) hbytes)
      rw [hr2] at hr
      injection hr with _ h2
      rw [← h2]; simp

theorem wpList_append_drawn {P : Program} (w : World) {ops : Array Oper} {rest : List Oper} {o : Oper} {a : Act} {Q : Exit → Act → World → Prop} (hgd : o.guard = none) (s x : Operand) (t : TypeId)
    (ho : o.op = .call { callee := .builtin .append, args := #[s, x], argTypes := #[t, t] })
    (base : Nat) (e : TypeId) (i : TypeInfo) (z : Value) (size bytes : Nat) (ht : P.underlying t = some (.slice e)) (hi : P.info? e = some i) (hz : i.zero = some z)
    (hsize : i.size = size) (hby : i.bytes = bytes) (hzs : z.cells.size = size) (hsz : 0 < size)
    (v : Value) (n : Nat) (xs : List Value) (hs : a.eval s = v) (hown : w.ownsRow base e size v n xs)
    (ad : Addr) (m c : Nat) (news : List Value) (hm : 0 < m) (hx : a.eval x = .slice (some ad) m c) (hl : news.length = m * size) (hnews : ∀ j u, news[j]? = some u → w.cell? (ad.add j) = some u) (h1 : ∀ u ∈ news, u.oneCell' = true)
    (h63 : n + m ≤ maxLen) (hbytes : (n + m) * bytes ≤ 140737488355328) (hbase : base ≤ w.heap.size)
    (h : ∀ v' w', w'.ownsRow base e size v' (n + m) (xs ++ news) → w.grownBy w' v.ownBlock → w.drawn ≤ w'.drawn → wpList P ops Q rest (a.put o.dst v') w') : wpList P ops Q (o :: rest) a w := by
  refine wpList_plain hgd fun K hK => ?_
  obtain ⟨v', w', hr, h2, h3, _⟩ := run_append_own (P := P) w base t o.type e i z size bytes ht hi hz hsize hby hzs hsz v n xs hown ad m c news hl hnews h1 h63 hbytes hbase
  have hd := append_drawn w base t o.type e i z size bytes ht hi hz hsize hby hzs v n xs hown ad m c news hm hl hnews h1 h63 hbytes v' w' hr
  unfold Oper.wp execOp
  simp only [ho, resolve, invoke, builtin, Sem.run_bind, Sem.run_pure, Result.andThen_ok, List.map_toArray, List.map_cons, List.map_nil, hs, hx, hr]
  exact hK _ _ (h v' w' h2 h3 hd)

section
variable {w : World} {p : Nat} {A : ByteArray} {L : Nat} {chk : Bool} {M : Nat} {nx : Int × Int → Option Int}

set_option maxRecDepth 100000 in
set_option maxHeartbeats 1000000 in
theorem values_grow (h : SchAt w p A L chk M nx) (s : ByteArray) (hs : s.size ≤ 1000) (ha : ∀ k (hk : k < s.size), s[k].toNat < 128) :
    Calls Try.prog 62 #[.pointer (some ⟨p, 0, none⟩), .string s] w
      fun e w' => ∃ v, e = .returned v ∧ IntsAt w' v (vals A.data.toList s.data.toList) ∧ Below w.heap.size w w' ∧ w.drawn ≤ w'.drawn := by
  obtain ⟨i0, hi, hz0, hz1, hz2⟩ := info_parts infoInt
  have hp : p < w.heap.size := lt_of_cell h.a
  go_enter Try.func62, Try.ntmps62
  go_wp2_with fail
  go_loopw [5] (fun v wr => ∃ k : Nat, k ≤ s.size ∧ wr.heap[w.heap.size]? = some (.stringIter s k) ∧ wr.ownsRow (w.heap.size + 1) 3 1 v k ((vals A.data.toList (s.data.toList.take k)).map (Value.int .i64)) ∧ Below w.heap.size w wr ∧ Hid (w.drawn ≤ wr.drawn))
    (fun _ wr => s.size - wr.iterPos w.heap.size)
  case atStart =>
    refine ⟨0, Nat.zero_le _, ?_, World.ownsRow_nil _ _ _ _, (Below.refl _ _).alloc (Nat.le_refl _) _, Lib.hid (Nat.le_refl _)⟩
    exact World.iter_heap w s 0
  case round =>
    obtain ⟨k, hk, hit, hown, hbel, hdr⟩ := hrel
    by_cases hlt : k < s.size
    · have hn := fun ty => Lib.run_next_ascii_at (P := Try.prog) wr w.heap.size s k ty hit hlt (ha k hlt)
      have hbel2 : Below w.heap.size w (wr.iterAt w.heap.size s (k + 1)) := Lib.below_iterAt hbel (Nat.le_refl _) s (k + 1)
      have hit2 := Lib.iterAt_heap wr w.heap.size s k (k + 1) hit
      have hown2 := ownsRow_iterAt hown (Nat.lt_succ_self _) s (k + 1)
      have hpos := iterPos_of hit
      have hdr2 : Hid (w.drawn ≤ (wr.iterAt w.heap.size s (k + 1)).drawn) := hdr
      clear hown hit hdr
      generalize wr.iterAt w.heap.size s (k + 1) = wi at *
      have h1 := (h.below hbel2).a
      have hit3 := Lib.hid hit2
      have hlt2 : w.heap.size < wi.heap.size := (Array.getElem?_eq_some_iff.1 hit2).1
      clear hit2
      go_wp2_with fail
      refine (Try.strings_IndexRune_ascii _ _ _ ?_ ?_).mono ?_
      · omega
      · have := ha k hlt; omega
      rintro e w' ⟨rfl, rfl⟩
      have hb8 : ((s[k].toNat : Int).toNat.toUInt8) = s[k] := by simp
      rw [hb8]
      clear hb8
      go_wp2_with (at_builtin; refine wpList_append_drawn _ rfl _ _ 67 rfl (w.heap.size + 1) 3 i0 (.int .i64 0) 1 8 Try.underlying67 hi hz0 hz1 hz2 rfl (by decide) _ _ _ rfl (hown2.alloc _) ⟨w'.heap.size, 0, none⟩ 1 1 [.int .i64 (Lib.indexByte A.data.toList s[k])] (by decide) rfl rfl ?c1 ?c2 ?c3 ?c4 ?c5 ?_)
      case c1 =>
        intro j u hj
        match j, hj with
        | 0, hj => simp at hj; subst hj; simp [Addr.add]
      case c2 => intro u hu; simp at hu; subst hu; rfl
      case c3 => unfold maxLen; omega
      case c4 => omega
      case c5 => simp; omega
      intro v' w1 hown' hgrow hdr3
      have HDR : Hid (w.drawn ≤ w1.drawn) := Lib.hid (Nat.le_trans hdr2.out hdr3)
      clear hdr2 hdr3
      have hb1 : Below w.heap.size w w1 := ((hbel2.alloc hbel2.size _).grown hgrow (by simp; omega) (fun g hg => by have := (hown2.lt g hg).1; omega))
      have hit4 : w1.heap[w.heap.size]? = some (.stringIter s (k + 1)) := by
        have h5 : (w'.alloc (.cells #[.int .i64 (Lib.indexByte A.data.toList s[k])] 3)).heap[w.heap.size]? = some (.stringIter s (k + 1)) := (Below.heap_alloc w' _ _ hlt2).trans hit3.out
        refine (hgrow.block w.heap.size (by simp; omega) ?_).trans h5
        intro hcc
        have := (hown2.lt w.heap.size hcc.symm).1
        omega
      have hv : (vals A.data.toList (s.data.toList.take (k + 1))).map (Value.int .i64) = (vals A.data.toList (s.data.toList.take k)).map (Value.int .i64) ++ [.int .i64 (Lib.indexByte A.data.toList s[k])] := by
        rw [take_snoc s k hlt]; simp [vals]
      rw [← hv] at hown'
      clear hv hgrow hown2 hn h1
      go_wp2
      go_roundw
      case rel => exact ⟨k + 1, by omega, hit4, hown', hb1, HDR⟩
      case measure => rw [hpos, iterPos_of hit4]; omega
    · have hn := fun ty => Lib.run_next_end_at (P := Try.prog) wr w.heap.size s k ty hit hlt
      have : k = s.size := by omega
      subst this
      have ho := IntsAt.of_owns hown (by simp [vals])
      rw [List.take_of_length_le (by simp)] at ho
      have HDR : Hid (w.drawn ≤ (wr.iterAt w.heap.size s (s.size)).drawn) := hdr
      clear hown hit
      go_wp2
      go_ret
      exact ⟨_, rfl, ho, hbel, hdr.out⟩
end

/-- lists of ints, compared -/
def cmpL : List Int → List Int → Int
  | [], [] => 0
  | [], _ :: _ => -1
  | _ :: _, [] => 1
  | a :: x, b :: y => if Lib.compareInt a b = 0 then cmpL x y else Lib.compareInt a b

theorem IntsAt.shape {w : World} {v : Value} {l : List Int} (h : IntsAt w v l) : ∃ ao cap, v = .slice ao l.length cap ∧ ∀ i, i < l.length → ∃ g, ao = some ⟨g, 0, none⟩ ∧ w.cell? ⟨g, i, none⟩ = some (.int .i64 (l.getD i 0)) := by
  rcases h with ⟨rfl, rfl⟩ | ⟨g, cap, rfl, h⟩
  · exact ⟨none, 0, rfl, fun i hi => by simp at hi⟩
  · exact ⟨_, _, rfl, fun i hi => ⟨g, rfl, h i hi⟩⟩

theorem cmpL_step {x y : List Int} {k : Nat} (hx : k < x.length) (hy : k < y.length) : cmpL (x.drop k) (y.drop k) = if Lib.compareInt (x.getD k 0) (y.getD k 0) = 0 then cmpL (x.drop (k + 1)) (y.drop (k + 1)) else Lib.compareInt (x.getD k 0) (y.getD k 0) := by
  rw [List.drop_eq_getElem_cons hx, List.drop_eq_getElem_cons hy, cmpL, List.getD_eq_getElem?_getD, List.getElem?_eq_getElem hx, List.getD_eq_getElem?_getD, List.getElem?_eq_getElem hy]
  rfl

set_option maxHeartbeats 1000000 in
theorem compare_any (w : World) (v1 v2 : Value) (x y : List Int) (h1 : IntsAt w v1 x) (h2 : IntsAt w v2 y) (hx : x.length ≤ 1000) :
    Calls Try.prog 61 #[v1, v2] w fun e w' => e = .returned (.int .i64 (cmpL x y)) ∧ w = w' := by
  obtain ⟨a1, c1, rfl, hc1⟩ := h1.shape
  obtain ⟨a2, c2, rfl, hc2⟩ := h2.shape
  have HC1 := Lib.hid hc1
  have HC2 := Lib.hid hc2
  clear h1 h2 hc1 hc2
  go_enter Try.func61, Try.ntmps61
  go_wp2_with fail
  go_loop [11] (fun vk => ∃ k : Nat, k ≤ x.length ∧ k ≤ y.length ∧ vk = .int .i64 k ∧ Hid (cmpL x y = cmpL (x.drop k) (y.drop k))) (fun vk => x.length - (intOf vk).toNat)
  case atStart => exact ⟨0, Nat.zero_le _, Nat.zero_le _, rfl, Lib.hid rfl⟩
  case round =>
    obtain ⟨k, hkx, hky, rfl, HK⟩ := hrel
    by_cases hltx : k < x.length
    · obtain ⟨g1, ha1, e1⟩ := HC1.out k hltx
      subst ha1
      by_cases hlty : k < y.length
      · obtain ⟨g2, ha2, e2⟩ := HC2.out k hlty
        subst ha2
        have HS0 := Lib.hid (cmpL_step hltx hlty)
        generalize x.getD k 0 = xv at *
        generalize y.getD k 0 = yv at *
        go_wp2_with fail
        refine (Try.cmp_Compare_int xv yv _).mono ?_
        rintro e w' ⟨rfl, rfl⟩
        obtain ⟨cv, hcv⟩ : ∃ cv, cv = Lib.compareInt xv yv := ⟨_, rfl⟩
        have HST2 : Hid (cmpL (x.drop k) (y.drop k) = if cv = 0 then cmpL (x.drop (k + 1)) (y.drop (k + 1)) else cv) := Lib.hid (by rw [hcv]; exact HS0.out)
        rw [← hcv]
        clear hcv
        rcases (show cv = 0 ∨ cv < 0 ∨ 0 < cv by omega) with rfl | hq | hq
        · have HQ : Hid (cmpL x y = cmpL (x.drop (k + 1)) (y.drop (k + 1))) := Lib.hid (by rw [HK.out, HST2.out, if_pos rfl])
          go_wp2_with fail
          go_round
          case rel => exact ⟨k + 1, by omega, by omega, by go_num, HQ⟩
          case measure => simp [intOf]; omega
        all_goals
          have HQ : Hid (cmpL x y = cv) := Lib.hid (by rw [HK.out, HST2.out, if_neg (by omega)])
          have hd : (cv != 0) = true := by rw [bne_iff_ne]; omega
          have hd2 : (cv == 0) = false := by rw [beq_eq_false_iff_ne]; omega
          go_wp2_with fail
          go_ret
          exact ⟨by rw [HQ.out]; rfl, rfl⟩
      · have HQ : Hid (cmpL x y = 1) := Lib.hid (by
          rw [HK.out, List.drop_eq_getElem_cons hltx, List.drop_eq_nil_of_le (show y.length ≤ k by omega)]; rfl)
        go_wp2_with fail
        go_ret
        exact ⟨by rw [HQ.out]; rfl, rfl⟩
    · obtain rfl : k = x.length := by omega
      by_cases hlty : x.length < y.length
      · have HQ : Hid (cmpL x y = -1) := Lib.hid (by
          rw [HK.out, List.drop_length, List.drop_eq_getElem_cons hlty]; rfl)
        go_wp2_with fail
        go_ret
        exact ⟨by rw [HQ.out]; rfl, rfl⟩
      · have HQ : Hid (cmpL x y = 0) := Lib.hid (by
          rw [HK.out, List.drop_length, List.drop_eq_nil_of_le (show y.length ≤ x.length by omega)]; rfl)
        go_wp2_with fail
        go_ret
        exact ⟨by rw [HQ.out]; rfl, rfl⟩

section
variable {w : World} {p : Nat} {A : ByteArray} {L : Nat} {chk : Bool} {M : Nat} {nx : Int × Int → Option Int}

set_option maxRecDepth 100000 in
set_option maxHeartbeats 2000000 in
theorem closure_any (bx : Nat) (h : SchAt w p A L chk M nx) (hb : w.cell? ⟨bx, 0, none⟩ = some (.pointer (some ⟨p, 0, none⟩))) (x y : ByteArray) (hx : x.size ≤ 1000) (hxa : ∀ k (hk : k < x.size), x[k].toNat < 128) (hy : y.size ≤ 1000) (hya : ∀ k (hk : k < y.size), y[k].toNat < 128) :
    Calls Try.prog 60 #[.string x, .string y, .pointer (some ⟨bx, 0, none⟩)] w
      fun e w' => e = .returned (.int .i64 (cmpL (vals A.data.toList x.data.toList) (vals A.data.toList y.data.toList))) ∧ Below w.heap.size w w' ∧ w.drawn ≤ w'.drawn := by
  have HSCH : Hid (∀ wq, Below w.heap.size w wq → SchAt wq p A L chk M nx) := Lib.hid (fun wq hq => h.below hq)
  have HXA := Lib.hid hxa
  have HYA := Lib.hid hya
  have hxl : (vals A.data.toList x.data.toList).length ≤ 1000 := by unfold vals; rw [List.length_map, size_toList]; exact hx
  have HXL := Lib.hid hxl
  have hbl := World.block_lt_of_cell? w _ hb
  clear h hxa hya hxl
  go_enter Try.func60, Try.ntmps60
  go_wp2_with fail
  go_region_held3 (fun q => q.cell? ⟨bx, 0, none⟩ = some (.pointer (some ⟨p, 0, none⟩)))
    (first
      | exact (hBx.cell (p := ⟨bx, 0, none⟩) hbl).trans hb
      | exact (hBy.cell (p := ⟨bx, 0, none⟩) hbl).trans hb
      | exact hb)
    ((first
      | (go_at_call_of 62 x
         refine (values_grow (HSCH.out _ (by first | exact hBy | exact (Below.refl _ w).drew)) x hx HXA.out).mono ?_
         rintro e wX ⟨vX, rfl, hIX, hbX, hdX⟩
         have hBx : Below w.heap.size w wX := (by first | exact hBy.trans (hbX.mono hBy.size) | exact (Below.refl _ w).drew.trans hbX)
         have hDx : w.drawn ≤ wX.drawn := (by first | exact Nat.le_trans hDy hdX | exact Nat.le_trans (Nat.le_succ _) hdX)
         try have hIY2 := hIY.below hbX)
      | (go_at_call_of 62 y
         refine (values_grow (HSCH.out _ (by first | exact hBx | exact (Below.refl _ w).drew)) y hy HYA.out).mono ?_
         rintro e wY ⟨vY, rfl, hIY, hbY, hdY⟩
         have hBy : Below w.heap.size w wY := (by first | exact hBx.trans (hbY.mono hBx.size) | exact (Below.refl _ w).drew.trans hbY)
         have hDy : w.drawn ≤ wY.drawn := (by first | exact Nat.le_trans hDx hdY | exact Nat.le_trans (Nat.le_succ _) hdY)
         try have hIX2 := hIX.below hbY)
      | (go_at_call 61
         refine (compare_any _ _ _ _ _ (by first | exact hIX2 | exact hIX) (by first | exact hIY2 | exact hIY) HXL.out).mono ?_
         rintro e wC ⟨rfl, rfl⟩)))
  all_goals
    go_wp2_with fail
    go_ret
    exact ⟨rfl, by first | exact hBx | exact hBy, by first | exact hDx | exact hDy⟩
end
end Go.Proofs.Yteleehldcpjndaa
