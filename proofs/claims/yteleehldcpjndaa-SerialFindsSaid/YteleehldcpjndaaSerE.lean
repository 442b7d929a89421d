/- The contract of package serial's counter and of the function that it returns. Condition: the scheme lies in memory as 'SchAt' says, its table is that of an automaton. -/
import Derived.Test.YteleehldcpjndaaSerD
namespace Go.Proofs.Yteleehldcpjndaa
open Go Go.RowKit

/-- the states of a counter: place, state, sum -/
abbrev St := Nat × Nat × Nat

def cstep (A mask : ByteArray) (t : Nat → Nat → Option Nat) (sums : Bool) (s : St) (v : Nat) : Option St :=
  match t s.2.1 v with
  | none => none
  | some j => if lets1 A mask s.1 v then some (s.1 + 1, j, if sums then fold1 A.size s.2.2 v else 0) else none

def cfin (A mask : ByteArray) (L : Nat) (sums : Bool) (s : St) : Bool := !(sums && bt A (check1 A.size s.2.2) != bt mask L)

def capM : Nat := 1099511627777

/-- the number of ways to go on, up to the cap -/
def ways (A mask : ByteArray) (L : Nat) (t : Nat → Nat → Option Nat) (sums : Bool) (n : Nat) (s : St) : Nat := cnt A.size (cstep A mask t sums) (cfin A mask L sums) capM n s

theorem grown_trans {a b c : World} {r : Option Nat} (h : a.grownBy b r) (k : b.grownBy c r) : a.grownBy c r :=
  ⟨k.os.trans h.os, k.tape.trans h.tape, k.output.trans h.output, Nat.le_trans h.size k.size, fun i hi hr => (k.block i (Nat.lt_of_lt_of_le hi h.size) hr).trans (h.block i hi hr)⟩

theorem grown_drewN (w : World) (n : Nat) (r : Option Nat) : w.grownBy (w.drewN n) r := ⟨rfl, rfl, rfl, Nat.le_refl _, fun _ _ _ => rfl⟩

theorem grown_refl (w : World) (r : Option Nat) : w.grownBy w r := ⟨rfl, rfl, rfl, Nat.le_refl _, fun _ _ _ => rfl⟩

theorem grown_below {w w' : World} (h : Below w.heap.size w w') (r : Option Nat) : w.grownBy w' r := ⟨h.os, h.tape, h.output, h.size, fun k hk _ => h.block k hk⟩

theorem cell_grown {κ : Type} {w w' : World} {MB : Nat} {enc : κ → Value} {f : κ → Option Int} (hf : MapFn w MB enc f) (hg : w.grownBy w' (some MB)) {a : Addr} {v : Value} (h : w.cell? a = some v) : w'.cell? a = some v := by
  refine hg.cell h ?_
  intro e
  obtain ⟨es, clock, hb, _⟩ := hf
  have e' : a.block = MB := Option.some.inj e
  simp [World.cell?, e', hb] at h

section
variable (p : Nat) (A : ByteArray) (L : Nat) (chk : Bool) (M : Nat) (nx : Int × Int → Option Int) (t : Nat → Nat → Option Nat) (mask : ByteArray) (X S K Mm C MB : Nat)

def ctrFn : Value := .func (.func 79) #[] #[.pointer (some ⟨X, 0, none⟩), .pointer (some ⟨S, 0, none⟩), .pointer (some ⟨K, 0, none⟩), .pointer (some ⟨Mm, 0, none⟩), .pointer (some ⟨C, 0, none⟩)]

/-- what a counter has captured -/
structure CtrAt (w : World) : Prop where
  sch : SchAt w p A L chk M nx
  x : w.cell? ⟨X, 0, none⟩ = some (.pointer (some ⟨p, 0, none⟩))
  s : w.cell? ⟨S, 0, none⟩ = some (.bool (sumsB L chk mask))
  k : w.cell? ⟨K, 0, none⟩ = some (.string mask)
  m : w.cell? ⟨Mm, 0, none⟩ = some (.map (some MB))
  c : w.cell? ⟨C, 0, none⟩ = some (ctrFn X S K Mm C)
  ne : M ≠ MB
  memo : ∃ f, MapFn w MB key3 f ∧ ∀ (n a i q : Nat) v, a + n = L → f ((a : Int), (i : Int), (q : Int)) = some v → v = (ways A mask L t (sumsB L chk mask) n (a, i, q) : Nat)
end

section
variable {p : Nat} {A : ByteArray} {L : Nat} {chk : Bool} {M : Nat} {nx : Int × Int → Option Int} {t : Nat → Nat → Option Nat} {mask : ByteArray} {X S K Mm C MB : Nat} {w : World} {N : Nat}

theorem SchAt.grown {w' : World} {MB : Nat} {κ : Type} {enc : κ → Value} {f : κ → Option Int} (h : SchAt w p A L chk M nx) (hf : MapFn w MB enc f) (hne : M ≠ MB) (hg : w.grownBy w' (some MB)) : SchAt w' p A L chk M nx :=
  ⟨cell_grown hf hg h.a, cell_grown hf hg h.l, cell_grown hf hg h.c, cell_grown hf hg h.m, h.t.of_block (hg.block _ h.t.lt (fun e => hne (Option.some.inj e)))⟩

/-- a step that leaves the memory's map alone -/
theorem CtrAt.kept {w' : World} (h : CtrAt p A L chk M nx t mask X S K Mm C MB w) (hb : Below w.heap.size w w') : CtrAt p A L chk M nx t mask X S K Mm C MB w' := by
  obtain ⟨f, hf, hm⟩ := h.memo
  have hg := grown_below hb (some MB)
  exact ⟨h.sch.below hb, cell_grown hf hg h.x, cell_grown hf hg h.s, cell_grown hf hg h.k, cell_grown hf hg h.m, cell_grown hf hg h.c, h.ne, f, hf.below hb hf.lt, hm⟩

/-- behind a store into the memory -/
theorem CtrAt.stored {w' : World} {f : Int × Int × Int → Option Int} (h : CtrAt p A L chk M nx t mask X S K Mm C MB w) (hf : MapFn w MB key3 f)
    (hm : ∀ (n a i q : Nat) v, a + n = L → f ((a : Int), (i : Int), (q : Int)) = some v → v = (ways A mask L t (sumsB L chk mask) n (a, i, q) : Nat))
    {a i q n : Nat} {z : Int} (hf' : MapFn w' MB key3 (fun k' => if k' = ((a : Int), (i : Int), (q : Int)) then some z else f k')) (hg : w.grownBy w' (some MB)) (han : a + n = L) (hz : z = (ways A mask L t (sumsB L chk mask) n (a, i, q) : Nat)) :
    CtrAt p A L chk M nx t mask X S K Mm C MB w' := by
  refine ⟨h.sch.grown hf h.ne hg, cell_grown hf hg h.x, cell_grown hf hg h.s, cell_grown hf hg h.k, cell_grown hf hg h.m, cell_grown hf hg h.c, h.ne, _, hf', ?_⟩
  intro n' a' i' q' v' hn' hv'
  by_cases hk : ((a' : Int), (i' : Int), (q' : Int)) = ((a : Int), (i : Int), (q : Int))
  · simp only [hk, if_true, Option.some.injEq] at hv'
    simp only [Prod.mk.injEq, Int.natCast_inj] at hk
    obtain ⟨rfl, rfl, rfl⟩ := hk
    obtain rfl : n' = n := by omega
    rw [← hv', hz]
  · simp only [hk, if_false] at hv'
    exact hm n' a' i' q' v' hn' hv'

theorem fold1_if_le (m q v : Nat) (s : Bool) : (if s then fold1 m q v else 0) ≤ m := by
  have := fold1_lt m q v
  split <;> omega

theorem check1_lt (m q : Nat) (h : 0 < m) : check1 m q < m := Nat.mod_lt _ h

set_option maxRecDepth 100000 in
set_option maxHeartbeats 1000000 in
theorem count_end (hm : 0 < A.size) (hA36 : A.size ≤ 36) (hmask : mask.size = sz L chk) (i q : Nat) (hq : q ≤ A.size) (h : CtrAt p A L chk M nx t mask X S K Mm C MB w) :
    Calls Try.prog 79 #[.int .i64 L, .int .i64 i, .int .i64 q, .pointer (some ⟨X, 0, none⟩), .pointer (some ⟨S, 0, none⟩), .pointer (some ⟨K, 0, none⟩), .pointer (some ⟨Mm, 0, none⟩), .pointer (some ⟨C, 0, none⟩)] w
      fun e w' => e = .returned (.int .i64 (ways A mask L t (sumsB L chk mask) 0 (L, i, q) : Nat)) ∧ CtrAt p A L chk M nx t mask X S K Mm C MB w' ∧ w.grownBy w' (some MB) := by
  have hx := h.x
  have hs := h.s
  have hk := h.k
  have h1 := h.sch.a
  have h2 := h.sch.l
  cases hsum : sumsB L chk mask
  · rw [hsum] at hs
    have HF : Hid (ways A mask L t false 0 (L, i, q) = 1) := by simp [Hid, ways, cnt, cfin]
    clear hsum
    go_enter Try.func79, Try.ntmps79
    go_wp2_with fail
    go_quiet (fail)
    go_wp2
    go_ret
    exact ⟨by rw [HF.out]; rfl, h.kept (below_drewN _ _), grown_drewN _ _ _⟩
  · rw [hsum] at hs
    have hchk : chk = true := by unfold sumsB at hsum; simp at hsum; exact hsum.1
    have hlt : L < mask.size := by rw [hmask, hchk]; simp [sz]
    have hcl := check1_lt A.size q hm
    have HM := Lib.hid hmask
    clear hsum hmask hchk
    cases hc : (bt A (check1 A.size q) != bt mask L)
    · have hd : ((A[check1 A.size q].toNat : Int) != (mask[L].toNat : Int)) = false := by rw [int_ne_bytes, bt_get hcl, bt_get hlt, hc]
      have HF : Hid (ways A mask L t true 0 (L, i, q) = 1) := by simp [Hid, ways, cnt, cfin, hc]
      clear hc
      go_enter Try.func79, Try.ntmps79
      go_wp2_with fail
      go_quiet ((go_at_call 73; exact Calls.quiet_of_same ((check_any (h.sch.below (below_drewN _ _)) q hm hA36 hq).mono fun e w' h => ⟨h.1, h.2.symm⟩)))
      go_wp2
      go_ret
      exact ⟨by rw [HF.out]; rfl, h.kept (below_drewN _ _), grown_drewN _ _ _⟩
    · have hd : ((A[check1 A.size q].toNat : Int) != (mask[L].toNat : Int)) = true := by rw [int_ne_bytes, bt_get hcl, bt_get hlt, hc]
      have HF : Hid (ways A mask L t true 0 (L, i, q) = 0) := by simp [Hid, ways, cnt, cfin, hc]
      clear hc
      go_enter Try.func79, Try.ntmps79
      go_wp2_with fail
      go_quiet ((go_at_call 73; exact Calls.quiet_of_same ((check_any (h.sch.below (below_drewN _ _)) q hm hA36 hq).mono fun e w' h => ⟨h.1, h.2.symm⟩)))
      go_wp2
      go_ret
      exact ⟨by rw [HF.out]; rfl, h.kept (below_drewN _ _), grown_drewN _ _ _⟩

/-- the counts of the letters below v -/
def part (A mask : ByteArray) (L : Nat) (t : Nat → Nat → Option Nat) (sums : Bool) (n : Nat) (s : St) (k : Nat) : Nat :=
  (List.range k).foldl (fun tot v => match cstep A mask t sums s v with
    | none => tot
    | some u => min (tot + ways A mask L t sums n u) capM) 0

theorem ways_succ (A mask : ByteArray) (L : Nat) (t : Nat → Nat → Option Nat) (sums : Bool) (n : Nat) (s : St) : ways A mask L t sums (n + 1) s = part A mask L t sums n s A.size := by
  unfold ways part
  rw [cnt]
  congr 1
  funext tot v
  cases cstep A mask t sums s v <;> rfl

theorem part_succ (A mask : ByteArray) (L : Nat) (t : Nat → Nat → Option Nat) (sums : Bool) (n : Nat) (s : St) (k : Nat) :
    part A mask L t sums n s (k + 1) = match cstep A mask t sums s k with
      | none => part A mask L t sums n s k
      | some u => min (part A mask L t sums n s k + ways A mask L t sums n u) capM := by
  simp only [part, List.range_succ, List.foldl_append, List.foldl_cons, List.foldl_nil]

theorem ways_le (A mask : ByteArray) (L : Nat) (t : Nat → Nat → Option Nat) (sums : Bool) (n : Nat) (s : St) : ways A mask L t sums n s ≤ capM := by
  unfold ways; rw [cnt_eq _ _ _ _ (by decide)]; exact Nat.min_le_right _ _

theorem part_le (A mask : ByteArray) (L : Nat) (t : Nat → Nat → Option Nat) (sums : Bool) (n : Nat) (s : St) (k : Nat) : part A mask L t sums n s k ≤ capM := by
  induction k with
  | zero => exact Nat.zero_le _
  | succ k ih =>
    rw [part_succ]; split
    · exact ih
    · exact Nat.min_le_right _ _

theorem cell_alloc {a : Addr} {v : Value} (h : w.cell? a = some v) (o : Obj) : (w.alloc o).cell? a = some v := by
  refine (((Below.refl w.heap.size w).alloc (Nat.le_refl _) o).cell ?_).trans h
  exact World.block_lt_of_cell? w a h

theorem int_min (a b : Nat) : Value.int IntKind.i64 (min ((a : Int) + (b : Int)) 1099511627777) = Value.int IntKind.i64 ((min (a + b) capM : Nat) : Int) := by
  congr 1; unfold capM; omega

/-- what 'memory[key]' is -/
theorem CtrAt.memLook {f : Int × Int × Int → Option Int} (hf : MapFn w MB key3 f) (a i q : Int) :
    (Instr.lookup 103 (.map (some MB)) (.agg #[.int .i64 a, .int .i64 i, .int .i64 q]) true).run Try.prog w = .ok (.tuple #[.int .i64 ((f (a, i, q)).getD 0), .bool (f (a, i, q)).isSome]) w := by
  have := hf.lookup klaw3 Try.underlying103 (by kernel_rfl) (a, i, q) true
  exact this

set_option maxRecDepth 100000 in
set_option maxHeartbeats 1000000 in
theorem count_any (hm : 0 < A.size) (hA36 : A.size ≤ 36) (hL16 : L ≤ 16) (hmask : mask.size = sz L chk) (hn : NxIs nx N A.size t) : ∀ (n a i q : Nat) (w : World), a + n = L → i < N → q ≤ A.size → CtrAt p A L chk M nx t mask X S K Mm C MB w →
    Calls Try.prog 79 #[.int .i64 a, .int .i64 i, .int .i64 q, .pointer (some ⟨X, 0, none⟩), .pointer (some ⟨S, 0, none⟩), .pointer (some ⟨K, 0, none⟩), .pointer (some ⟨Mm, 0, none⟩), .pointer (some ⟨C, 0, none⟩)] w
      fun e w' => e = .returned (.int .i64 (ways A mask L t (sumsB L chk mask) n (a, i, q) : Nat)) ∧ CtrAt p A L chk M nx t mask X S K Mm C MB w' ∧ w.grownBy w' (some MB) := by
  intro n
  induction n with
  | zero =>
    intro a i q w ha hi hq h
    obtain rfl : a = L := by omega
    exact count_end hm hA36 hmask i q hq h
  | succ n ih =>
    intro a i q w ha hi hq h
    have ih2 : ∀ (a i q : Nat) (w : World), a + n = L → i < N → q ≤ A.size → CtrAt p A L chk M nx t mask X S K Mm C MB w → ∀ ai ii qi : Int, ai = a → ii = i → qi = q →
        Calls Try.prog 79 #[.int .i64 ai, .int .i64 ii, .int .i64 qi, .pointer (some ⟨X, 0, none⟩), .pointer (some ⟨S, 0, none⟩), .pointer (some ⟨K, 0, none⟩), .pointer (some ⟨Mm, 0, none⟩), .pointer (some ⟨C, 0, none⟩)] w
          fun e w' => e = .returned (.int .i64 (ways A mask L t (sumsB L chk mask) n (a, i, q) : Nat)) ∧ CtrAt p A L chk M nx t mask X S K Mm C MB w' ∧ w.grownBy w' (some MB) := by
      intro a i q w g1 g2 g3 g4 ai ii qi e1 e2 e3
      subst e1 e2 e3
      exact ih a i q w g1 g2 g3 g4
    have IH := Lib.hid ih2
    clear ih ih2
    have hx := h.x
    have hs := h.s
    have hk := h.k
    have hmm := h.m
    have h1 := h.sch.a
    have h2 := h.sch.l
    have haL : a < L := by omega
    have hne : ((a : Int) == (L : Int)) = false := by rw [beq_eq_false_iff_ne]; omega
    obtain ⟨f, hf, hmemo⟩ := h.memo
    have hfa := fun o => hf.below ((Below.refl w.heap.size w).alloc (Nat.le_refl _) o) hf.lt
    have hlook := fun o => CtrAt.memLook (hfa o) a i q
    have HM := Lib.hid hmemo
    have HMASK := Lib.hid hmask
    clear hmemo hmask
    cases hfk : f ((a : Int), (i : Int), (q : Int)) with
    | some v =>
      have hv := HM.out (n + 1) a i q v ha hfk
      simp only [hfk] at hlook
      have HV := Lib.hid hv
      clear hfk hv ha
      have hmmA := fun o => cell_alloc hmm o
      go_enter Try.func79, Try.ntmps79
      go_wp2
      go_ret
      refine ⟨by rw [HV.out]; rfl, h.kept ?_, grown_below ?_ _⟩
      · exact (Below.refl _ _).alloc (Nat.le_refl _) _
      · exact (Below.refl _ _).alloc (Nat.le_refl _) _
    | none =>
      simp only [hfk] at hlook
      have HFK := Lib.hid hfk
      clear hfk
      have hmmA := fun o => cell_alloc hmm o
      have hxA := fun o => cell_alloc hx o
      have h1A := fun o => cell_alloc h1 o
      go_enter Try.func79, Try.ntmps79
      go_wp2_with fail
      clear hmmA hxA h1A hlook hfa
      have hsize : MB < w.heap.size := hf.lt
      go_loopw [15, 60] (fun tot kk wr => ∃ k : Nat, k ≤ A.size ∧ kk = .int .i64 k ∧ tot = .int .i64 (part A mask L t (sumsB L chk mask) n (a, i, q) k : Nat) ∧ CtrAt p A L chk M nx t mask X S K Mm C MB wr ∧ (w.alloc (.cells #[.int .i64 a, .int .i64 i, .int .i64 q] 105)).grownBy wr (some MB))
        (fun _ kk _ => A.size - (intOf kk).toNat)
      case atStart =>
        refine ⟨0, Nat.zero_le _, rfl, rfl, h.kept ((Below.refl _ _).alloc (Nat.le_refl _) _), grown_refl _ _⟩
      case round =>
        obtain ⟨k, hk', rfl, rfl, hc, hg⟩ := hrel
        have hx := hc.x
        have hs := hc.s
        have hk := hc.k
        have hmm := hc.m
        have h1 := hc.sch.a
        have h4 := hc.sch.m
        have hcc := hc.c
        unfold ctrFn at hcc
        have hpl := part_le A mask L t (sumsB L chk mask) n (a, i, q) k
        have hpl' : ((part A mask L t (sumsB L chk mask) n (a, i, q) k : Nat) : Int) ≤ 1099511627777 := by unfold capM at hpl; omega
        have hps := part_succ A mask L t (sumsB L chk mask) n (a, i, q) k
        clear hpl
        by_cases hlt : k < A.size
        · obtain ⟨hnx, hjn⟩ := hn i k hi hlt
          have hlk := hc.sch.look i k _ hnx
          have hamask : a < mask.size := by rw [HMASK.out]; unfold sz; split <;> omega
          cases htj : t i k with
          | none =>
            simp only [htj] at hlk
            have HPS : Hid (part A mask L t (sumsB L chk mask) n (a, i, q) (k + 1) = part A mask L t (sumsB L chk mask) n (a, i, q) k) := by
              show _ = _; rw [hps]; simp [cstep, htj]
            clear hnx htj hjn hps
            go_wp2_with fail
            go_quiet (fail)
            go_wp2
            go_roundw
            case rel => exact ⟨k + 1, by omega, by go_num, by rw [HPS.out], hc.kept (below_drewN _ _), grown_trans hg (grown_drewN _ _ _)⟩
            case measure => simp [intOf]; omega
          | some j =>
            simp only [htj] at hlk
            have hjN := hjn j htj
            cases hlet : lets1 A mask a k
            · have hd1 : ((mask[a].toNat : Int) != 63) = true := by
                rw [int_ne_63, bt_get hamask]; unfold lets1 at hlet; simp at hlet; simp [hlet]
              have hd2 : ((mask[a].toNat : Int) != (A[k].toNat : Int)) = true := by
                rw [int_ne_bytes, bt_get hamask, bt_get hlt]; unfold lets1 at hlet; simp at hlet; simp [hlet]
              have hd0 : ((j : Int) == -1) = false := by rw [beq_eq_false_iff_ne]; omega
              have HPS : Hid (part A mask L t (sumsB L chk mask) n (a, i, q) (k + 1) = part A mask L t (sumsB L chk mask) n (a, i, q) k) := by
                show _ = _; rw [hps]; simp [cstep, htj, hlet]
              clear hnx htj hjn hps hlet
              go_wp2_with fail
              go_quiet (fail)
              go_wp2
              go_roundw
              case rel => exact ⟨k + 1, by omega, by go_num, by rw [HPS.out], hc.kept (below_drewN _ _), grown_trans hg (grown_drewN _ _ _)⟩
              case measure => simp [intOf]; omega
            · have hd0 : ((j : Int) == -1) = false := by rw [beq_eq_false_iff_ne]; omega
              have hcase : (((mask[a].toNat : Int) != 63) = false) ∨ (((mask[a].toNat : Int) != 63) = true ∧ ((mask[a].toNat : Int) != (A[k].toNat : Int)) = false) := by
                unfold lets1 at hlet
                rw [int_ne_63, int_ne_bytes, bt_get hamask, bt_get hlt]
                by_cases hc63 : bt mask a = 63
                · left; simp [hc63]
                · right; simp [hc63] at hlet; exact ⟨by simp [hc63], by simp [hlet]⟩
              have hfl := fold1_lt A.size q k
              cases hsum : sumsB L chk mask
              · rw [hsum] at hs hpl'
                have HPS : Hid (part A mask L t false n (a, i, q) (k + 1) = min (part A mask L t false n (a, i, q) k + ways A mask L t false n (a + 1, j, 0)) capM) := by
                  show _ = _; rw [hsum] at hps; rw [hps]; simp [cstep, htj, hlet]
                have hwl := ways_le A mask L t false n (a + 1, j, 0)
                have hwl' : ((ways A mask L t false n (a + 1, j, 0) : Nat) : Int) ≤ 1099511627777 := by unfold capM at hwl; omega
                have HSUM := Lib.hid hsum
                clear hnx htj hjn hps hlet hwl hsum
                rcases hcase with hd1 | ⟨hd1, hd2⟩
                all_goals
                  go_wp2_with fail
                  go_quiet (fail)
                  go_wp2_with fail
                  refine (IH.out (a + 1) j 0 _ (by omega) hjN (Nat.zero_le _) (hc.kept (below_drewN _ _)) ((a : Int) + 1) j 0 (by omega) rfl rfl).mono ?_
                  rintro e w2 ⟨rfl, hc2, hg2⟩
                  rw [HSUM.out]
                  go_wp2_with fail
                  go_roundw
                  case rel => exact ⟨k + 1, by omega, by go_num, by rw [HPS.out]; exact int_min _ _, hc2, grown_trans hg (grown_trans (grown_drewN _ _ _) hg2)⟩
                  case measure => simp [intOf]; omega
              · rw [hsum] at hs hpl'
                have HPS : Hid (part A mask L t true n (a, i, q) (k + 1) = min (part A mask L t true n (a, i, q) k + ways A mask L t true n (a + 1, j, fold1 A.size q k)) capM) := by
                  show _ = _; rw [hsum] at hps; rw [hps]; simp [cstep, htj, hlet]
                have hwl := ways_le A mask L t true n (a + 1, j, fold1 A.size q k)
                have hwl' : ((ways A mask L t true n (a + 1, j, fold1 A.size q k) : Nat) : Int) ≤ 1099511627777 := by unfold capM at hwl; omega
                have HSUM := Lib.hid hsum
                clear hnx htj hjn hps hlet hwl hsum
                rcases hcase with hd1 | ⟨hd1, hd2⟩
                all_goals
                  go_wp2_with fail
                  go_quiet (fail)
                  go_wp2_with fail
                  refine (fold_any (hc.sch.drewN _) q k hm hA36 (by omega) (by omega)).mono ?_
                  rintro e w2 ⟨rfl, rfl⟩
                  go_wp2_with fail
                  refine (IH.out (a + 1) j (fold1 A.size q k) _ (by omega) hjN (fold1_lt _ _ _) (hc.kept (below_drewN _ _)) ((a : Int) + 1) j (fold1 A.size q k : Nat) (by omega) rfl rfl).mono ?_
                  rintro e w2 ⟨rfl, hc2, hg2⟩
                  rw [HSUM.out]
                  go_wp2_with fail
                  go_roundw
                  case rel => exact ⟨k + 1, by omega, by go_num, by rw [HPS.out]; exact int_min _ _, hc2, grown_trans hg (grown_trans (grown_drewN _ _ _) hg2)⟩
                  case measure => simp [intOf]; omega
        · obtain rfl : k = A.size := by omega
          have HFIN : Hid (ways A mask L t (sumsB L chk mask) (n + 1) (a, i, q) = part A mask L t (sumsB L chk mask) n (a, i, q) A.size) := ways_succ _ _ _ _ _ _ _
          obtain ⟨f2, hf2, hm2⟩ := hc.memo
          have HM2 := Lib.hid hm2
          have keyc : ∀ j v, (w.alloc (.cells #[.int .i64 a, .int .i64 i, .int .i64 q] 105)).cell? ⟨w.heap.size, j, none⟩ = some v → wr.cell? ⟨w.heap.size, j, none⟩ = some v := by
            intro j v hv
            exact hg.cell hv (fun e => by have := Option.some.inj e; simp at this; omega)
          have c0 := keyc 0 _ (World.cell?_alloc_mark w _ _ (0, 0) 0)
          have c1 := keyc 1 _ (World.cell?_alloc_mark w _ _ (0, 0) 1)
          have c2 := keyc 2 _ (World.cell?_alloc_mark w _ _ (0, 0) 2)
          have HAN := Lib.hid ha
          clear keyc hps hm2 ha
          go_wp2_with (at_mapUpdate; refine wpList_mapUpdate_fn _ rfl _ _ _ 103 (.inl rfl) 105 3 key3 klaw3 Try.underlying103 MB f2 rfl hf2 ((a : Int), (i : Int), (q : Int)) (part A mask L t (sumsB L chk mask) n (a, i, q) A.size : Nat) rfl rfl ?_; intro w3 hf3 hg3)
          go_ret
          refine ⟨by rw [HFIN.out]; rfl, hc.stored hf2 HM2.out hf3 hg3 HAN.out (by rw [HFIN.out]), ?_⟩
          exact grown_trans (grown_trans (World.grownBy_alloc w _ _) hg) hg3
end
end Go.Proofs.Yteleehldcpjndaa
