/- The contract of copied. Condition: the scheme's parts are in memory, its banned strings are few. -/
import Derived.Test.YteleehldcpjndaaLawD
import Derived.Test.YteleehldcpjndaaSerK
namespace Go.Proofs.Yteleehldcpjndaa
open Go Go.RowKit

theorem free_block {w : World} {b : Nat} {C : Array Value} {t : TypeId} (h : w.heap[b]? = some (.cells C t (0, 0))) (j : Nat) : w.frozen? ⟨b, j, none⟩ = false := by simp [World.frozen?, h]

theorem block_setCell {w : World} {b : Nat} {C : Array Value} {t : TypeId} {f : Nat × Nat} (h : w.heap[b]? = some (.cells C t f)) (j : Nat) (u : Value) : (w.setCell ⟨b, j, none⟩ u).heap[b]? = some (.cells (C.setIfInBounds j u) t f) := by
  have hlt := lt_of_block h
  have h' : w.heap[b] = .cells C t f := by simpa [Array.getElem?_eq_getElem hlt] using h
  show (w.heap.modify b _)[b]? = _
  rw [Array.getElem?_eq_getElem (by simpa using hlt), Array.getElem_modify_self, h']
  rfl

theorem infoScheme : (Try.prog.info? 24).map (·.size) = some 4 := by kernel_rfl

theorem append_opt {P : Program} {w : World} {ops : Array Oper} {rest : List Oper} {o : Oper} {a : Act} {Q : Exit → Act → World → Prop} (hgd : o.guard = none) (s x : Operand) (t : TypeId)
    (ho : o.op = .call { callee := .builtin .append, args := #[s, x], argTypes := #[t, t] })
    (base : Nat) (e : TypeId) (i : TypeInfo) (z : Value) (size bytes : Nat) (ht : P.underlying t = some (.slice e)) (hi : P.info? e = some i) (hz : i.zero = some z)
    (hsize : i.size = size) (hby : i.bytes = bytes) (hzs : z.cells.size = size) (hsz : 0 < size)
    (v : Value) (n : Nat) (xs : List Value) (hs : a.eval s = v) (hown : w.ownsRow base e size v n xs)
    (ao : Option Addr) (m c : Nat) (news : List Value) (hx : a.eval x = .slice ao m c) (hno : ao = none → m = 0 ∧ c = 0) (hl : news.length = m * size)
    (hnews : ∀ ad, ao = some ad → ∀ j u, news[j]? = some u → w.cell? (ad.add j) = some u) (h1 : ∀ u ∈ news, u.oneCell' = true)
    (h63 : n + m ≤ maxLen) (hbytes : (n + m) * bytes ≤ 140737488355328) (hbase : base ≤ w.heap.size)
    (h : ∀ v' w', w'.ownsRow base e size v' (n + m) (xs ++ news) → w.grownBy w' v.ownBlock → wpList P ops Q rest (a.put o.dst v') w') : wpList P ops Q (o :: rest) a w := by
  cases ao with
  | none =>
    obtain ⟨rfl, rfl⟩ := hno rfl
    have hn : news = [] := List.length_eq_zero_iff.1 (by omega)
    subst hn
    refine wpList_append_own_none hgd s x t ho base e i size ht hi v n xs hs hown hx ?_
    refine h v w ?_ ⟨rfl, rfl, rfl, Nat.le_refl _, fun _ _ _ => rfl⟩
    rw [Nat.add_zero, List.append_nil]; exact hown
  | some ad => exact wpList_append_own w hgd s x t ho base e i z size bytes ht hi hz hsize hby hzs hsz v n xs hs hown ad m c news hx hl (hnews ad rfl) h1 h63 hbytes hbase fun v' w' h2 h3 _ => h v' w' h2 h3

/-- a scheme with a list of its own -/
structure OwnSch (s : Sch) (w0 w : World) (a : Option Addr) (cap : Nat) : Prop where
  row : w.ownsRow w0.heap.size 9 1 (.slice a s.bs.length cap) s.bs.length (s.bs.map Value.string)
  in_ : s.In w a
  below : Below w0.heap.size w0 w

/-- what copied returns -/
def CopyPost (s : Sch) (w : World) (e : Ending) (w' : World) : Prop := ∃ a cap, e = .returned (s.val a cap) ∧ OwnSch s w w' a cap

theorem heap_new (w : World) (C : Array Value) (t : TypeId) (k : Nat) (h : k = w.heap.size) : (w.alloc (.cells C t)).heap[k]? = some (.cells C t (0, 0)) := by subst h; exact (MapKept.heap_alloc w _).1

theorem strsAt_own {w : World} {base : Nat} {a : Option Addr} {bs : List ByteArray} {cap : Nat} (h : w.ownsRow base 9 1 (.slice a bs.length cap) bs.length (bs.map Value.string)) : StrsAt w a bs := by
  intro hpos
  rcases h.2 with ⟨h1, h2⟩ | ⟨g, cp, cur, hv, hb, hg, hn, hm, hsz, ht⟩
  · omega
  · injection hv with hv1 hv2 hv3
    subst hv1
    refine ⟨g, 0, rfl, Lib.hid fun i hi => ?_⟩
    rw [Nat.zero_add, cell_of_block hg i]
    have h1 : (cur.toList.take (bs.length * 1))[i]? = (bs.map Value.string)[i]? := by rw [ht]
    rw [List.getElem?_take_of_lt (by omega), List.getElem?_map, List.getElem?_eq_getElem hi] at h1
    rw [List.getD_eq_getElem?_getD, List.getElem?_eq_getElem hi]
    simpa using h1

theorem owns_mono {w : World} {base base' size n : Nat} {e : TypeId} {v : Value} {xs : List Value} (h : w.ownsRow base e size v n xs) (hb : base' ≤ base) : w.ownsRow base' e size v n xs := by
  refine ⟨h.1, ?_⟩
  rcases h.2 with h1 | ⟨g, cp, cur, hv, hg, hr⟩
  · exact .inl h1
  · exact .inr ⟨g, cp, cur, hv, Nat.le_trans hb hg, hr⟩

section
variable {w : World} {s : Sch} {a : Option Addr} {cap : Nat}

set_option maxRecDepth 100000 in
set_option maxHeartbeats 1000000 in
theorem copied_any (h : s.In w a) (hcap : a = none → cap = 0) (hlen : s.bs.length ≤ 20) :
    Calls Try.prog 32 #[s.val a cap] w (CopyPost s w) := by
  have hcell : ∀ ad, a = some ad → ∀ i, i < s.bs.length → w.cell? (ad.add i) = some (.string (s.bs.getD i ⟨#[]⟩)) := by
    intro ad ha i hi
    obtain ⟨b', off', ha', hc⟩ := h.strs (by omega)
    rw [ha] at ha'
    injection ha' with ha'
    subst ha'
    rw [show (⟨b', off', none⟩ : Addr).add i = ⟨b', off' + i, none⟩ by cases i <;> simp [Addr.add]]
    exact hc.out i hi
  have hnone : a = none → s.bs.length = 0 ∧ cap = 0 := by
    intro ha
    refine ⟨?_, hcap ha⟩
    rcases Nat.eq_zero_or_pos s.bs.length with h0 | h0
    · exact h0
    · obtain ⟨b', off', ha', _⟩ := h.strs h0
      rw [ha] at ha'; cases ha'
  have HNONE := Lib.hid hnone
  clear hcap hnone
  obtain ⟨i0, hi, hz0, hz1, hz2⟩ := info_parts infoStr
  have HIN := Lib.hid h
  have HC := Lib.hid hcell
  clear hcell h
  unfold Sch.val
  go_enter Try.func32, Try.ntmps32
  go_wp2_with (at_builtin; refine append_opt rfl _ _ 22 rfl (w.heap.size + 1 + 1) 9 i0 (.string ByteArray.empty) 1 16 Try.underlying22 hi hz0 hz1 hz2 rfl (by decide) _ 0 [] rfl ⟨rfl, .inr ⟨w.heap.size + 1 + 1, 0, #[], rfl, Nat.le_refl _, ?c0, Nat.le_refl _, Nat.zero_le _, rfl, rfl⟩⟩ a s.bs.length cap (s.bs.map Value.string) rfl HNONE.out ?cl ?c1 ?c2 ?c3 ?c4 ?c5 ?_)
  case c0 => exact heap_new _ _ _ _ (by simp)
  case cl => simp
  case c1 =>
    intro ad ha j u hj
    have hj2 : j < s.bs.length := by have := (List.getElem?_eq_some_iff.1 hj).1; simpa using this
    have hcl := HC.out ad ha j hj2
    have hu : u = .string (s.bs.getD j ⟨#[]⟩) := by
      rw [List.getElem?_map, List.getElem?_eq_getElem hj2] at hj
      rw [List.getD_eq_getElem?_getD, List.getElem?_eq_getElem hj2]
      simpa using hj.symm
    rw [hu]
    exact cell_alloc (cell_alloc (cell_alloc hcl _) _) _
  case c2 =>
    intro u hu
    obtain ⟨x, _, rfl⟩ := List.mem_map.1 hu
    rfl
  case c3 => unfold maxLen; omega
  case c4 => omega
  case c5 => simp
  intro v' w' hown' hg'
  obtain ⟨ao, cp, rfl⟩ := owns_shape hown'
  have hbx : w'.heap[w.heap.size]? = some (.cells #[.string s.A, .int .i64 s.L, .slice a s.bs.length cap, .bool s.chk] 24 (0, 0)) :=
    (hg'.block _ (by simp; omega) (by simp [Value.ownBlock]; omega)).trans ((Below.heap_alloc _ _ _ (by simp; omega)).trans ((Below.heap_alloc _ _ _ (by simp)).trans (heap_new _ _ _ _ rfl)))
  have hrs : w'.heap[w.heap.size + 1]? = some (.cells #[.string ⟨#[]⟩, .int .i64 0, .slice none 0 0, .bool false] 24 (0, 0)) :=
    (hg'.block _ (by simp) (by simp [Value.ownBlock])).trans ((Below.heap_alloc _ _ _ (by simp)).trans (heap_new _ _ _ _ (by simp)))
  have hbel : Below w.heap.size w w' := ((((Below.refl w.heap.size w).alloc (Nat.le_refl _) _).alloc (by simp) _).alloc (by simp; omega) _).grown hg' (by simp; omega) (fun k hk => by simp [Value.ownBlock] at hk; omega)
  have HG := Lib.hid hg'
  have HO := Lib.hid hown'
  have HB := Lib.hid hbel
  clear hg' hown' hbel
  have f2 := free_block hbx 2
  have hb2 := block_setCell hbx 2 (.slice ao s.bs.length cp)
  have hr2 : (w'.setCell ⟨w.heap.size, 2, none⟩ (.slice ao s.bs.length cp)).heap[w.heap.size + 1]? = some (.cells #[.string ⟨#[]⟩, .int .i64 0, .slice none 0 0, .bool false] 24 (0, 0)) := (Below.heap_setCell _ _ _ _ (by simp)).trans hrs
  have c2 : w'.cell? ⟨w.heap.size, 2, none⟩ = some (.slice a s.bs.length cap) := cell_of_block hbx 2
  have d0 : (w'.setCell ⟨w.heap.size, 2, none⟩ (.slice ao s.bs.length cp)).cell? ⟨w.heap.size, 0, none⟩ = some (.string s.A) := cell_of_block hb2 0
  have d1 : (w'.setCell ⟨w.heap.size, 2, none⟩ (.slice ao s.bs.length cp)).cell? ⟨w.heap.size, 1, none⟩ = some (.int .i64 s.L) := cell_of_block hb2 1
  have d2 : (w'.setCell ⟨w.heap.size, 2, none⟩ (.slice ao s.bs.length cp)).cell? ⟨w.heap.size, 2, none⟩ = some (.slice ao s.bs.length cp) := cell_of_block hb2 2
  have d3 : (w'.setCell ⟨w.heap.size, 2, none⟩ (.slice ao s.bs.length cp)).cell? ⟨w.heap.size, 3, none⟩ = some (.bool s.chk) := cell_of_block hb2 3
  have g0 := free_block hr2 0
  have g1 := free_block hr2 1
  have g2 := free_block hr2 2
  have g3 := free_block hr2 3
  have k0 : (w'.setCell ⟨w.heap.size, 2, none⟩ (.slice ao s.bs.length cp)).cell? ⟨w.heap.size + 1, 0, none⟩ = some (.string ⟨#[]⟩) := cell_of_block hr2 0
  have k1 : (w'.setCell ⟨w.heap.size, 2, none⟩ (.slice ao s.bs.length cp)).cell? ⟨w.heap.size + 1, 1, none⟩ = some (.int .i64 0) := cell_of_block hr2 1
  have k2 : (w'.setCell ⟨w.heap.size, 2, none⟩ (.slice ao s.bs.length cp)).cell? ⟨w.heap.size + 1, 2, none⟩ = some (.slice none 0 0) := cell_of_block hr2 2
  have k3 : (w'.setCell ⟨w.heap.size, 2, none⟩ (.slice ao s.bs.length cp)).cell? ⟨w.heap.size + 1, 3, none⟩ = some (.bool false) := cell_of_block hr2 3
  have HB2 := Lib.hid hb2
  have HR2 := Lib.hid hr2
  clear hb2 hr2 hbx hrs
  go_wp2_with fail
  have q1 := block_setCell HR2.out 0 (.string s.A)
  have q2 := block_setCell q1 1 (.int .i64 s.L)
  have q3 := block_setCell q2 2 (.slice ao s.bs.length cp)
  have q4 := block_setCell q3 3 (.bool s.chk)
  have o1 := ownsRow_setCell_below HO.out (a := ⟨w.heap.size, 2, none⟩) (by simp; omega) (.slice ao s.bs.length cp)
  have o2 := ownsRow_setCell_below o1 (a := ⟨w.heap.size + 1, 0, none⟩) (by simp) (.string s.A)
  have o3 := ownsRow_setCell_below o2 (a := ⟨w.heap.size + 1, 1, none⟩) (by simp) (.int .i64 s.L)
  have o4 := ownsRow_setCell_below o3 (a := ⟨w.heap.size + 1, 2, none⟩) (by simp) (.slice ao s.bs.length cp)
  have o5 := ownsRow_setCell_below o4 (a := ⟨w.heap.size + 1, 3, none⟩) (by simp) (.bool s.chk)
  have b5 := ((((HB.out.setCell (p := ⟨w.heap.size, 2, none⟩) (by simp) (.slice ao s.bs.length cp)).setCell (p := ⟨w.heap.size + 1, 0, none⟩) (by simp) (.string s.A)).setCell (p := ⟨w.heap.size + 1, 1, none⟩) (by simp) (.int .i64 s.L)).setCell (p := ⟨w.heap.size + 1, 2, none⟩) (by simp) (.slice ao s.bs.length cp)).setCell (p := ⟨w.heap.size + 1, 3, none⟩) (by simp) (.bool s.chk)
  generalize ((((w'.setCell ⟨w.heap.size, 2, none⟩ (.slice ao s.bs.length cp)).setCell ⟨w.heap.size + 1, 0, none⟩ (.string s.A)).setCell ⟨w.heap.size + 1, 1, none⟩ (.int .i64 s.L)).setCell ⟨w.heap.size + 1, 2, none⟩ (.slice ao s.bs.length cp)).setCell ⟨w.heap.size + 1, 3, none⟩ (.bool s.chk) = W5 at *
  have e0 : W5.cell? ⟨w.heap.size + 1, 0, none⟩ = some (.string s.A) := cell_of_block q4 0
  have e1 : W5.cell? ⟨w.heap.size + 1, 1, none⟩ = some (.int .i64 s.L) := cell_of_block q4 1
  have e2 : W5.cell? ⟨w.heap.size + 1, 2, none⟩ = some (.slice ao s.bs.length cp) := cell_of_block q4 2
  have e3 : W5.cell? ⟨w.heap.size + 1, 3, none⟩ = some (.bool s.chk) := cell_of_block q4 3
  have Q4 := Lib.hid q4
  clear q1 q2 q3 q4 o1 o2 o3 o4 g0 g1 g2 g3 k0 k1 k2 k3 d0 d1 d2 d3 c2 f2
  have hrow := owns_mono o5 (show w.heap.size ≤ w.heap.size + 1 + 1 by omega)
  have HP : Hid (CopyPost s w (.returned (s.val ao cp)) W5) := Lib.hid ⟨ao, cp, rfl, hrow, ⟨HIN.out.alpha, HIN.out.len, HIN.out.bans, HIN.out.num, strsAt_own hrow⟩, b5⟩
  clear o5 b5 hrow
  unfold Sch.val at HP
  have hcs : W5.heap[w.heap.size + 1]? = some (.cells #[.string s.A, .int .i64 s.L, .slice ao s.bs.length cp, .bool s.chk] 24 (0, 0)) := Q4.out
  refine bodyPost_ret (results_cell_row rfl _ _ _ _ _ _ _ rfl hcs Try.underlying24 rfl infoScheme) rfl ?_
  exact HP.out
end
end Go.Proofs.Yteleehldcpjndaa
