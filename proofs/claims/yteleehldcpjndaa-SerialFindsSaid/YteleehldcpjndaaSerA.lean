/- The contracts of package serial's small functions. Condition: the scheme lies in memory as 'SchAt' says. -/
import Derived.Test.YteleehldcpjndaaMapFn
import Derived.Test.YteleehldcpjndaaShelf
import Derived.Test.YteleehldcpjndaaLang
import Derived.BigQuiet
import Derived.Deep.QuietTactic
import Derived.Lib.IndexAny
namespace Go.Proofs.Yteleehldcpjndaa
open Go Go.RowKit

theorem ret_bool {a b : Bool} (h : a = b) : Ending.returned (.bool a) = .returned (.bool b) := by rw [h]
theorem ret_int {k : IntKind} {a b : Int} (h : a = b) : Ending.returned (.int k a) = .returned (.int k b) := by rw [h]
theorem ret_str {a b : ByteArray} (h : a = b) : Ending.returned (.string a) = .returned (.string b) := by rw [h]

/-- block p holds the fields of a scheme, block M its table -/
structure SchAt (w : World) (p : Nat) (A : ByteArray) (L : Nat) (chk : Bool) (M : Nat) (nx : Int × Int → Option Int) : Prop where
  a : w.cell? ⟨p, 0, none⟩ = some (.string A)
  l : w.cell? ⟨p, 1, none⟩ = some (.int .i64 L)
  c : w.cell? ⟨p, 3, none⟩ = some (.bool chk)
  m : w.cell? ⟨p, 4, none⟩ = some (.map (some M))
  t : MapFn w M key2 nx

theorem lt_of_cell {w : World} {p o : Nat} {v : Value} (h : w.cell? ⟨p, o, none⟩ = some v) : p < w.heap.size := by
  unfold World.cell? at h
  cases hp : w.heap[p]? with
  | none => simp [hp] at h
  | some x => exact (Array.getElem?_eq_some_iff.1 hp).1

section
variable {w : World} {p : Nat} {A : ByteArray} {L : Nat} {chk : Bool} {M : Nat} {nx : Int × Int → Option Int}

theorem SchAt.below {w' : World} (h : SchAt w p A L chk M nx) (hb : Below w.heap.size w w') : SchAt w' p A L chk M nx :=
  ⟨(hb.cell (by exact lt_of_cell h.a)).trans h.a, (hb.cell (by exact lt_of_cell h.a)).trans h.l, (hb.cell (by exact lt_of_cell h.a)).trans h.c, (hb.cell (by exact lt_of_cell h.a)).trans h.m, h.t.below hb h.t.lt⟩

def sz (L : Nat) (chk : Bool) : Nat := L + (if chk then 1 else 0)

set_option maxHeartbeats 400000 in
theorem size_any (h : SchAt w p A L chk M nx) (hL : L ≤ 16) :
    Calls Try.prog 58 #[.pointer (some ⟨p, 0, none⟩)] w fun e w' => e = .returned (.int .i64 (sz L chk)) ∧ w = w' := by
  have h1 := h.l
  have h3 := h.c
  cases chk
  · go_enter Try.func58, Try.ntmps58
    go_wp2
    go_ret
    exact ⟨by simp [sz], rfl⟩
  · go_enter Try.func58, Try.ntmps58
    go_wp2
    go_ret
    exact ⟨by simp [sz], rfl⟩

/-- the sum of the check character behind a byte of the value v -/
def fold1 (m p v : Nat) : Nat := 2 * (if (p + v) % m = 0 then m else (p + v) % m) % (m + 1)

set_option maxHeartbeats 400000 in
theorem fold_any (h : SchAt w p A L chk M nx) (q v : Nat) (hm : 0 < A.size) (hA : A.size ≤ 36) (hq : q ≤ 36) (hv : v ≤ 36) :
    Calls Try.prog 72 #[.pointer (some ⟨p, 0, none⟩), .int .i64 q, .int .i64 v] w fun e w' => e = .returned (.int .i64 (fold1 A.size q v)) ∧ w = w' := by
  have h1 := h.a
  have hmod : (q + v) % A.size < A.size := Nat.mod_lt _ hm
  have hb1 : ((q : Int) + (v : Int)) % (A.size : Int) < (A.size : Int) := Int.emod_lt_of_pos _ (by omega)
  have hb2 : 0 ≤ ((q : Int) + (v : Int)) % (A.size : Int) := Int.emod_nonneg _ (by omega)
  by_cases h0 : (q + v) % A.size = 0
  · have h2 : (((q : Int) + (v : Int)) % (A.size : Int) == 0) = true := by
      rw [beq_iff_eq, ← Int.natCast_add, ← Int.natCast_emod, h0]; rfl
    go_enter Try.func72, Try.ntmps72
    go_wp2
    go_ret
    refine ⟨ret_int ?_, rfl⟩
    simp [fold1, h0]
  · have h2 : (((q : Int) + (v : Int)) % (A.size : Int) == 0) = false := by
      rw [beq_eq_false_iff_ne, ← Int.natCast_add, ← Int.natCast_emod]; omega
    go_enter Try.func72, Try.ntmps72
    go_wp2
    go_ret
    refine ⟨ret_int ?_, rfl⟩
    simp [fold1, h0]
theorem fold1_lt (m p v : Nat) : fold1 m p v ≤ m := by
  unfold fold1
  have := Nat.mod_lt (2 * (if (p + v) % m = 0 then m else (p + v) % m)) (show 0 < m + 1 by omega)
  omega

/-- the value of the check character for a sum -/
def check1 (m p : Nat) : Nat := (m + 1 - p) % m

theorem check1_eq (m p : Nat) (hm : 0 < m) (hp : p ≤ m) : ((1 - (p : Int)).tmod m + m).tmod m = (check1 m p : Nat) := by
  unfold check1
  by_cases h1 : p = 0
  · subst h1
    by_cases h : m = 1
    · subst h; rfl
    · have e1 : ((1 : Int) - ((0 : Nat) : Int)).tmod (m : Int) = 1 := by
        rw [Int.tmod_eq_emod_of_nonneg (by omega), Int.emod_eq_of_lt (by omega) (by omega)]; rfl
      rw [e1, Int.tmod_eq_emod_of_nonneg (by omega), Int.natCast_emod]
      congr 1; omega
  · obtain ⟨r, rfl⟩ : ∃ r, p = r + 1 := ⟨p - 1, by omega⟩
    have : (1 - ((r + 1 : Nat) : Int)) = -(r : Int) := by omega
    have e1 : (r : Int).tmod (m : Int) = r := by
      rw [Int.tmod_eq_emod_of_nonneg (by omega), Int.emod_eq_of_lt (by omega) (by omega)]
    rw [this, Int.neg_tmod, e1, Int.tmod_eq_emod_of_nonneg (by omega), Int.natCast_emod]
    congr 1; omega

set_option maxHeartbeats 400000 in
theorem check_any (h : SchAt w p A L chk M nx) (q : Nat) (hm : 0 < A.size) (hA : A.size ≤ 36) (hq : q ≤ A.size) :
    Calls Try.prog 73 #[.pointer (some ⟨p, 0, none⟩), .int .i64 q] w fun e w' => e = .returned (.int .i64 (check1 A.size q)) ∧ w = w' := by
  have h1 := h.a
  have h0 : (A.size == 0) = false := by rw [beq_eq_false_iff_ne]; omega
  go_enter Try.func73, Try.ntmps73
  go_wp2
  go_ret
  refine ⟨ret_int ?_, rfl⟩
  have g1 := Int.tmod_lt_of_pos (1 - (q : Int)) (b := (A.size : Int)) (by omega)
  have g2 := Int.lt_tmod_of_pos (1 - (q : Int)) (b := (A.size : Int)) (by omega)
  rw [IntWalk.wrap64_in _ ⟨by omega, by omega⟩]
  exact check1_eq _ _ hm hq

/-- a byte of a string, 0 beyond its end -/
def bt (s : ByteArray) (i : Nat) : UInt8 := s.data.toList.getD i 0

/-- whether the sum of the check character is looked at -/
def sumsB (L : Nat) (chk : Bool) (mask : ByteArray) : Bool := chk && (bt mask L != 63)

theorem bt_get {s : ByteArray} {i : Nat} (h : i < s.size) : s[i] = bt s i := by
  unfold bt
  rw [List.getD_eq_getElem?_getD, List.getElem?_eq_getElem (by simpa using h)]; rfl
theorem int_ne_63 (b : UInt8) : ((b.toNat : Int) != 63) = (b != 63) := by
  rw [Bool.eq_iff_iff]
  simp only [bne_iff_ne, ne_eq]
  constructor
  · intro h e; subst e; exact h rfl
  · intro h e; exact h (UInt8.toNat_inj.1 (by simpa using (show b.toNat = 63 by omega)))
theorem int_ne_bytes (a b : UInt8) : ((a.toNat : Int) != (b.toNat : Int)) = (a != b) := by
  rw [Bool.eq_iff_iff]
  simp only [bne_iff_ne, ne_eq]
  constructor
  · intro h e; subst e; exact h rfl
  · intro h e; exact h (UInt8.toNat_inj.1 (by omega))

/-- the sum of the check character ahead of the first byte -/
def start1 (m L : Nat) (chk : Bool) (mask : ByteArray) : Nat := if sumsB L chk mask then m else 0

set_option maxHeartbeats 400000 in
theorem start_any (h : SchAt w p A L chk M nx) (mask : ByteArray) (hmask : mask.size = sz L chk) :
    Calls Try.prog 68 #[.pointer (some ⟨p, 0, none⟩), .string mask] w fun e w' => e = .returned (.int .i64 (start1 A.size L chk mask)) ∧ w = w' := by
  have h1 := h.l
  have h2 := h.a
  have h3 := h.c
  cases chk
  · go_enter Try.func68, Try.ntmps68
    go_wp2
    go_ret
    exact ⟨rfl, rfl⟩
  · have hlt : L < mask.size := by rw [hmask]; simp [sz]
    have HM := Lib.hid hmask
    clear hmask
    cases hb : (bt mask L != 63)
    · have HB := Lib.hid hb
      have hd : ((mask[L].toNat : Int) != 63) = false := by rw [int_ne_63, bt_get hlt, hb]
      clear hb
      go_enter Try.func68, Try.ntmps68
      go_wp2
      go_ret
      exact ⟨by simp [start1, sumsB, HB.out], rfl⟩
    · have HB := Lib.hid hb
      have hd : ((mask[L].toNat : Int) != 63) = true := by rw [int_ne_63, bt_get hlt, hb]
      clear hb
      go_enter Try.func68, Try.ntmps68
      go_wp2
      go_ret
      exact ⟨by simp [start1, sumsB, HB.out], rfl⟩

theorem repeat_one (c : UInt8) (n : Nat) : Lib.repeatL [c] n = List.replicate n c := by
  induction n with
  | zero => rfl
  | succ n ih => simp [Lib.repeatL, ih, List.replicate_succ]

set_option maxHeartbeats 400000 in
theorem any_any (h : SchAt w p A L chk M nx) (hL : L ≤ 16) :
    Calls Try.prog 48 #[.pointer (some ⟨p, 0, none⟩)] w fun e w' => e = .returned (.string ⟨(List.replicate (sz L chk) 63).toArray⟩) ∧ Below w.heap.size w w' := by
  go_enter Try.func48, Try.ntmps48
  go_wp2_with fail
  refine (size_any h hL).mono ?_
  rintro e w' ⟨rfl, rfl⟩
  go_wp2_with fail
  have hsz : sz L chk ≤ 17 := by unfold sz; split <;> omega
  refine (Try.strings_Repeat _ _ _ ?_ ?_).mono ?_
  · omega
  · show 1 * sz L chk ≤ _; omega
  rintro e w' ⟨rfl, hb⟩
  go_wp2
  go_ret
  refine ⟨ret_str ?_, hb⟩
  rw [repeat_one]

theorem of_mem (al : List UInt8) (c : UInt8) : (Lib.indexByte al c < 0) ↔ al.contains c = false := by
  rw [Lib.contains_iff_indexByte, decide_eq_false_iff_not]; omega

/-- all bytes of s are in al -/
def ofB (s al : List UInt8) : Bool := s.all fun c => al.contains c

theorem take_snoc (s : ByteArray) (k : Nat) (h : k < s.size) : s.data.toList.take (k + 1) = s.data.toList.take k ++ [s[k]] := by
  rw [List.take_succ_eq_append_getElem (by simpa using h)]; rfl

theorem ofB_snoc (s al : List UInt8) (c : UInt8) : ofB (s ++ [c]) al = (ofB s al && al.contains c) := by simp [ofB, List.all_append]

set_option maxHeartbeats 400000 in
theorem of_any (s al : ByteArray) (w : World) (hs : s.size ≤ maxLen) :
    Calls Try.prog 51 #[.string s, .string al] w fun e w' => e = .returned (.bool (ofB s.data.toList al.data.toList)) ∧ w = w' := by
  unfold maxLen at hs
  go_enter Try.func51, Try.ntmps51
  go_wp2_with fail
  go_loop [8] (fun i => ∃ k : Nat, k ≤ s.size ∧ i = .int .i64 k ∧ ofB (s.data.toList.take k) al.data.toList = true) (fun i => s.size - (intOf i).toNat)
  case atStart => exact ⟨0, Nat.zero_le _, rfl, rfl⟩
  case round =>
    obtain ⟨k, hk, rfl, hr⟩ := hrel
    have HR := Lib.hid hr
    clear hr
    by_cases hlt : k < s.size
    · go_wp2_with (go_at_call 71; refine (Try.strings_IndexByte _ _ _).mono ?_; rintro e w' ⟨rfl, rfl⟩)
      · have h0 : Lib.indexByte al.data.toList s[k] < 0 := by assumption
        go_ret
        refine ⟨ret_bool ?_, rfl⟩
        have h1 := (of_mem _ _).1 h0
        have h2 : s[k] ∈ s.data.toList := by simp [ByteArray.getElem_eq_getElem_data]
        symm
        rw [← Bool.not_eq_true]
        intro h3
        have := (List.all_eq_true.1 h3) _ h2
        rw [h1] at this; cases this
      · have h0 : 0 ≤ Lib.indexByte al.data.toList s[k] := by assumption
        go_round
        case rel =>
          refine ⟨k + 1, by omega, by go_num, ?_⟩
          rw [take_snoc s k hlt, ofB_snoc, HR.out, Bool.true_and]
          rcases hc : al.data.toList.contains s[k] with _ | _
          · have := (of_mem _ _).2 hc; omega
          · rfl
        case measure => simp [intOf]; omega
    · have : k = s.size := by omega
      subst this
      go_wp2
      go_ret
      refine ⟨ret_bool ?_, rfl⟩
      rw [← HR.out, List.take_of_length_le (by simp)]

end
end Go.Proofs.Yteleehldcpjndaa
