/- The contract of package serial's Near. Condition: the scheme is valid and in memory, the text has a serial's length and the alphabet's bytes. -/
import Derived.Test.YteleehldcpjndaaNearPlain
import Derived.Test.YteleehldcpjndaaNearApart
namespace Go.Proofs.Yteleehldcpjndaa
open Go Go.RowKit

theorem grown_of_below {W w' : World} (h : Below W.heap.size W w') (hd : W.drawn ≤ w'.drawn) : ∃ q os', w' = Go.Sort.grow (W.drewN q) os' := by
  obtain ⟨r, hr⟩ := regrown_of_below h
  have h1 : w'.drawn = r.d := by rw [hr]; rfl
  refine ⟨r.d - W.drawn, r.os, ?_⟩
  have h2 : redrawn W r.d = W.drewN (r.d - W.drawn) := by
    unfold redrawn World.drewN
    have : W.drawn + (r.d - W.drawn) = r.d := by omega
    rw [this]
  rw [hr, h2]

section
variable {α : Type} [Inhabited α]

theorem below_sortWorld (enc : α → Value) (w : World) (blk off m B : Nat) (dk : Array α) (os : Array Obj) (hB : B ≤ blk) (hB2 : B ≤ w.heap.size) : Below B w (sortWorld enc w blk off m dk os) := by
  unfold sortWorld
  refine ⟨rfl, rfl, rfl, ?_, ?_⟩
  · rw [Go.Sort.size_grow, Go.Sort.size_putRow]
    show w.heap.size ≤ w.heap.size + _
    omega
  · intro k hk
    have h1 : k < (Go.Sort.putRow enc (Go.Sort.ahead w m) blk off dk).heap.size := by
      rw [Go.Sort.size_putRow]
      show k < w.heap.size
      omega
    rw [Go.Sort.heap_grow_old _ _ h1]
    show (w.heap.modify blk _)[k]? = w.heap[k]?
    rw [Array.getElem?_modify, if_neg (by omega)]
end

section
variable {w : World} {s : Sch} {a : Option Addr} {cap : Nat}

/-- what Near returns -/
def NearSome (s : Sch) (x : Bytes) (w : World) (v : Value) (w' : World) : Prop :=
  Below w.heap.size w w' ∧ ∃ ao cp, v = .slice ao (s.nearT x).length cp ∧ StrsAt w' ao ((s.nearT x).map fun T => mkB (s.ser T))

theorem near_str (O : s.Ok) {x u : Bytes} (hx : s.syn x = true) (hu : u ∈ s.npart x x.length 0) : u.length ≤ 1000 ∧ ofB u s.A.data.toList = true := by
  obtain ⟨T, hT, rfl⟩ := List.mem_map.1 ((mem_near O hx).1 hu)
  have hTm := (List.mem_filter.1 hT).1
  refine ⟨?_, ser_of O hTm⟩
  rw [ser_len O hTm]
  have := O.l16
  unfold sz
  split <;> omega

theorem ascii_str (O : s.Ok) {u : Bytes} (hu : ofB u s.A.data.toList = true) : ∀ k (hk : k < (mkB u).size), (mkB u)[k].toNat < 128 := by
  intro k hk
  have hku : k < u.length := by rw [← size_toList, mkB_data] at hk; exact hk
  have h1 : (mkB u)[k] = u[k] := by simp [mkB, ByteArray.getElem_eq_getElem_data]
  refine Nat.lt_of_le_of_lt (Nat.le_of_eq (congrArg UInt8.toNat h1)) ?_
  have h2 := List.all_eq_true.1 hu u[k] (List.getElem_mem hku)
  exact O.ascii _ (by simpa using h2)

set_option maxHeartbeats 1000000 in
theorem near_ok (O : s.Ok) (he : s.err = 0) (h : s.In w a) (x : ByteArray) (hsyn : s.syn x.data.toList = true) :
    Calls Try.prog 41 #[s.val a cap, .string x] w fun e w' => ∃ v, e = .returned (.tuple #[v, .int .i64 0]) ∧ NearSome s x.data.toList w v w' := by
  refine near_walk O he h x hsyn (NearSome s x.data.toList w) ?_
  intro wb wr xb bx v hat hb h1 h2 hown
  have hbel := h1.trans (h2.mono h1.size)
  have hlen : (s.npart x.data.toList x.data.toList.length 0).length = (s.nearT x.data.toList).length := by
    have hp : (s.npart x.data.toList x.data.toList.length 0).Perm ((s.nearT x.data.toList).map s.ser) := by
      rw [List.perm_ext_iff_of_nodup (npart_nodup O)]
      · intro u; exact mem_near O hsyn
      · have : (s.nearT x.data.toList).map s.ser = _ := (near_sorted O hsyn ((s.npart x.data.toList x.data.toList.length 0).attach.map fun u => ⟨u.1, near_str O hsyn u.2⟩) (by rw [List.map_map]; exact List.attach_map_subtype_val _)).symm
        rw [this]
        have hperm := List.mergeSort_perm ((s.npart x.data.toList x.data.toList.length 0).attach.map fun u => (⟨u.1, near_str O hsyn u.2⟩ : Str s.A.data.toList)) (fun x y => !(ltOf (cfS s.A.data.toList)) y x)
        apply (hperm.map (·.1)).symm.nodup
        rw [List.map_map]
        show List.Nodup (List.map Subtype.val _)
        rw [List.attach_map_subtype_val]
        exact npart_nodup O
    rw [hp.length_eq, List.length_map]
  rw [size_toList] at hlen
  rcases Nat.eq_zero_or_pos (s.npart x.data.toList x.size 0).length with h0 | h0
  · obtain ⟨ao, cp, rfl⟩ := owns_shape hown
    rw [h0]
    refine (sort_none ao cp _ wr).mono ?_
    rintro e w' ⟨rfl, rfl⟩
    refine ⟨rfl, hbel, ao, cp, by rw [← hlen, h0], ?_⟩
    intro hpos
    rw [List.length_map, ← hlen] at hpos
    omega
  · obtain ⟨blk, cp, rfl, hblk, hblk2⟩ := hown.form h0
    obtain ⟨D, hDe⟩ : ∃ D : List (Str s.A.data.toList), D.map (·.1) = s.npart x.data.toList x.data.toList.length 0 :=
      ⟨(s.npart x.data.toList x.data.toList.length 0).attach.map fun u => ⟨u.1, near_str O hsyn u.2⟩, by rw [List.map_map]; exact List.attach_map_subtype_val _⟩
    have hsorted := near_sorted O hsyn D hDe
    rw [size_toList] at hDe
    have hDl : D.length = (s.npart x.data.toList x.size 0).length := by rw [← hDe, List.length_map]
    have hget : ∀ j (hj : j < D.length), (s.npart x.data.toList x.size 0)[j]? = some D[j].1 := by
      intro j hj
      rw [← hDe, List.getElem?_map, List.getElem?_eq_getElem hj]; rfl
    have hH : Go.Sort.Holds (fun u : Str s.A.data.toList => strV u.1) wr blk 0 D.toArray := by
      intro j hj
      have hj2 : j < D.length := by simpa using hj
      refine ⟨?_, ?_⟩
      · rw [Nat.zero_add, hown.cellAt j (by omega), List.getElem?_map, hget j hj2]
        simp [hj2]
      · rw [Nat.zero_add]; exact hown.frozenAt j
    have hcmp : CmpLays1 Try.prog 60 #[.pointer (some ⟨bx, 0, none⟩)] (fun u : Str s.A.data.toList => strV u.1) (cfS s.A.data.toList) blk 0 D.toArray.size wr := by
      intro m os dk _ u v
      have hS := h2.trans (below_sortWorld (fun u : Str s.A.data.toList => strV u.1) wr blk 0 m wb.heap.size dk os hblk h2.size)
      obtain ⟨M, g, hsch, _⟩ := (hat.below hS).sch
      have hb2 := (hS.cell (World.block_lt_of_cell? wb _ hb)).trans hb
      have hcl := closure_any bx hsch hb2 (mkB u.1) (mkB v.1) (by rw [← size_toList, mkB_data]; exact u.2.1) (ascii_str O u.2.2) (by rw [← size_toList, mkB_data]; exact v.2.1) (ascii_str O v.2.2)
      rw [mkB_data, mkB_data] at hcl
      refine Calls.mono hcl ?_
      rintro e w' ⟨rfl, hbw, hdw⟩
      exact ⟨rfl, grown_of_below hbw hdw⟩
    have eg : ∀ args w, (callFunc 60 args).run Try.prog w = .ok (.enter 60 args) w := enters_of Try.func60 (by kernel_rfl) rfl
    have hsz : D.toArray.size < 4611686018427387904 := by
      have h3 := npart_len (s := s) x.data.toList x.size 0
      have h4 := (syn_iff.1 hsyn).1
      rw [size_toList] at h4
      have h5 : x.size ≤ 17 := by rw [h4]; have := O.l16; unfold sz; split <;> omega
      have h6 : x.size * s.A.size ≤ 17 * 36 := Nat.mul_le_mul h5 O.a36
      simp only [List.size_toArray]
      omega
    have hS := Any.slices_SortFunc_total Try.sortL (fun u : Str s.A.data.toList => strV u.1) (fun _ => rfl) (cfS s.A.data.toList) (swoS s.A.data.toList) 60 #[.pointer (some ⟨bx, 0, none⟩)] blk 0 cp D.toArray wr eg hcmp hH hblk2 hsz (totS s.A.data.toList)
    change Calls Try.prog 59 _ _ _ at hS
    have hsize : D.toArray.size = (s.npart x.data.toList x.size 0).length := by simpa using hDl
    rw [hsize] at hS
    refine hS.mono ?_
    rintro e w' ⟨rfl, n, os, rfl⟩
    have hperm := List.mergeSort_perm D (fun x y => !(ltOf (cfS s.A.data.toList)) y x)
    refine ⟨rfl, hbel.trans (below_sortWorld _ wr blk 0 n w.heap.size _ os (by have := h1.size; omega) hbel.size), some ⟨blk, 0, none⟩, cp, by rw [hlen], ?_⟩
    intro hpos
    refine ⟨blk, 0, rfl, Lib.hid fun i hi => ?_⟩
    rw [List.length_map] at hi
    have hHS := holds_sortWorld (fun u : Str s.A.data.toList => strV u.1) wr blk 0 n D.toArray (D.mergeSort fun x y => !(ltOf (cfS s.A.data.toList)) y x).toArray os hblk2 hH (by simp [hperm.length_eq])
    have hi2 : i < (D.mergeSort fun x y => !(ltOf (cfS s.A.data.toList)) y x).length := by rw [hperm.length_eq, hDl, hlen]; exact hi
    have hc := (hHS i (by simpa using hi2)).1
    have hg : ((s.nearT x.data.toList).map s.ser)[i]? = some ((D.mergeSort fun x y => !(ltOf (cfS s.A.data.toList)) y x)[i]).1 := by
      rw [← hsorted, List.getElem?_map, List.getElem?_eq_getElem hi2]; rfl
    rw [List.getElem?_map, List.getElem?_eq_getElem hi] at hg
    simp only [Option.map_some, Option.some.injEq] at hg
    have hval : ((s.nearT x.data.toList).map fun T => mkB (s.ser T)).getD i ⟨#[]⟩ = mkB ((D.mergeSort fun x y => !(ltOf (cfS s.A.data.toList)) y x)[i]).1 := by
      rw [List.getD_eq_getElem?_getD, List.getElem?_map, List.getElem?_eq_getElem hi]
      simp only [Option.map_some, Option.getD_some]
      rw [hg]
    rw [hval]
    refine hc.trans ?_
    congr 1
    show strV _ = Value.string (mkB _)
    have : ((D.mergeSort fun x y => !(ltOf (cfS s.A.data.toList)) y x).toArray)[i]! = (D.mergeSort fun x y => !(ltOf (cfS s.A.data.toList)) y x)[i] := by
      rw [getElem!_pos _ i (by simpa using hi2)]; simp
    rw [this]; rfl
end
end Go.Proofs.Yteleehldcpjndaa
