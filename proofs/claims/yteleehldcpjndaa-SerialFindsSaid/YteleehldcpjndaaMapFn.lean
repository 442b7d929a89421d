/- A map with int elements in memory, as a function from keys; look-up, store. No condition. -/
import Derived.Test.YteleehldcpjndaaKeys
import Derived.WalkSpells
import Derived.WalkLawsBesides
import Derived.Lib.Hide
namespace Go.Proofs.Yteleehldcpjndaa
open Go Go.RowKit Go.MapKept

/-- what is needed of a key's type, for the keys 'enc k' -/
structure KLaw {κ : Type} (P : Program) (kt : TypeId) (enc : κ → Value) : Prop where
  inj : ∀ a b, enc a = enc b → a = b
  check : ∀ (w : World) (em : Bool) (k : κ), (Instr.checkKey em 10000 kt (enc k)).run P w = .ok () w
  find : ∀ (w : World) (k : κ) (es : List MapEntry), (∀ e ∈ es, ∃ k', e.key = enc k') →
    ((Instr.findKey kt (enc k) es).run P w = .ok none w ∧ ∀ e ∈ es, e.key ≠ enc k) ∨ ∃ j e, (Instr.findKey kt (enc k) es).run P w = .ok (some (j, e.val)) w ∧ es[j]? = some e ∧ e.key = enc k
  stays : ∀ (w : World) (k : κ), (Instr.keyThatStays (enc k) (enc k)).run P w = .ok (enc k) w

/-- strings -/
def keyS (s : List UInt8) : Value := .string ⟨s.toArray⟩

theorem klaw_string {P : Program} {kt : TypeId} (hk : P.underlying kt = some .string) : KLaw P kt keyS where
  inj a b h := by simp [keyS] at h; exact h
  check w em k := run_checkKey (d := TypeDesc.string) hk (by show True; trivial) em 9999
  find w k es hes := by
    rcases findNow_spec (d := TypeDesc.string) (k := keyS k) (by show True; trivial) es 0 (fun x hx => by obtain ⟨k', h⟩ := hes x hx; rw [h]; show True; trivial) with ⟨h1, h2⟩ | ⟨j, e0, h1, h2, h3⟩
    · exact .inl ⟨run_findKey hk h1, h2⟩
    · exact .inr ⟨j, e0, by simpa using run_findKey hk h1, h2, h3⟩
  stays w k := run_keyThatStays (d := TypeDesc.string) (k := keyS k) (by show True; trivial)

theorem findAsking_spec {κ : Type} [DecidableEq κ] {P : Program} {kt : TypeId} {enc : κ → Value} (w : World) (k : κ) (inj : ∀ a b, enc a = enc b → a = b) (heq : ∀ k', (Op.equal kt (enc k) (enc k')).run P w = .ok (decide (k = k')) w) :
    ∀ (es : List MapEntry) (i : Nat), (∀ e ∈ es, ∃ k', e.key = enc k') →
    ((Instr.findAsking kt (enc k) es i).run P w = .ok none w ∧ ∀ e ∈ es, e.key ≠ enc k) ∨ ∃ j e, (Instr.findAsking kt (enc k) es i).run P w = .ok (some (i + j, e.val)) w ∧ es[j]? = some e ∧ e.key = enc k
  | [], i, _ => .inl ⟨by simp [Instr.findAsking], by simp⟩
  | e :: es, i, h => by
    obtain ⟨k', hk'⟩ := h e (by simp)
    by_cases hkk : k = k'
    · subst hkk
      exact .inr ⟨0, e, by simp [Instr.findAsking, hk', heq], by simp, hk'⟩
    · rcases findAsking_spec w k inj heq es (i + 1) (fun x hx => h x (by simp [hx])) with ⟨h1, h2⟩ | ⟨j, e', h1, h2, h3⟩
      · refine .inl ⟨by simp [Instr.findAsking, hk', heq, hkk, h1], ?_⟩
        intro x hx
        simp at hx
        rcases hx with rfl | hx
        · rw [hk']; exact fun h => hkk (inj _ _ h).symm
        · exact h2 x hx
      · exact .inr ⟨j + 1, e', by simp [Instr.findAsking, hk', heq, hkk, h1]; omega, by simpa using h2, h3⟩

theorem findNow_arr {t : TypeDesc} {es : List MapEntry} {c : Value} (hc : ∀ v, Instr.sameNow t c v = none) (i : Nat) : es = [] ∨ Instr.findNow t c es i = none := by
  cases es with
  | nil => exact .inl rfl
  | cons e es => exact .inr (by simp [Instr.findNow, hc])

theorem klaw_of {κ : Type} [DecidableEq κ] {P : Program} {kt : TypeId} {enc : κ → Value} {t : TypeDesc} (ht : P.underlying kt = some t) (inj : ∀ a b, enc a = enc b → a = b)
    (check : ∀ (w : World) (em : Bool) (k : κ), (Instr.checkKey em 10000 kt (enc k)).run P w = .ok () w)
    (heq : ∀ (w : World) k k', (Op.equal kt (enc k) (enc k')).run P w = .ok (decide (k = k')) w) (hn : ∀ k v, Instr.sameNow t (enc k) v = none)
    (hst : ∀ k, Instr.sameBits 10000 (enc k) (enc k) = true) : KLaw P kt enc where
  inj := inj
  check := check
  find w k es hes := by
    rcases findNow_arr (t := t) (es := es) (hn k) 0 with rfl | h
    · exact .inl ⟨by simp [Instr.findKey, run_underlying ht, Instr.findNow], by simp⟩
    · rcases findAsking_spec w k inj (heq w k) es 0 hes with ⟨h1, h2⟩ | ⟨j, e, h1, h2, h3⟩
      · exact .inl ⟨by simp [Instr.findKey, run_underlying ht, h, h1], h2⟩
      · exact .inr ⟨j, e, by simpa [Instr.findKey, run_underlying ht, h] using h1, h2, h3⟩
  stays w k := by simp [Instr.keyThatStays, hst]

theorem klaw2 : KLaw Try.prog 93 key2 :=
  klaw_of Try.underlying93 key2_inj (fun w em k => checkKey_arr2 9998 k.1 k.2 em w)
    (fun w k k' => by
      have h := equal_arr2 9998 k.1 k.2 k'.1 k'.2 w
      have e : decide (k = k') = decide (k.1 = k'.1 ∧ k.2 = k'.2) := by simp [Prod.ext_iff]
      rw [e]
      exact h)
    (fun k v => by cases v <;> rfl) (fun k => by
      show Instr.sameBits (9999 + 1) (key2 k) (key2 k) = true
      simp [Instr.sameBits, key2])
theorem klaw3 : KLaw Try.prog 105 key3 :=
  klaw_of Try.underlying105 key3_inj (fun w em k => checkKey_arr3 9998 k.1 k.2.1 k.2.2 em w)
    (fun w k k' => by
      have h := equal_arr3 9998 k.1 k.2.1 k.2.2 k'.1 k'.2.1 k'.2.2 w
      have e : decide (k = k') = decide (k.1 = k'.1 ∧ k.2.1 = k'.2.1 ∧ k.2.2 = k'.2.2) := by simp [Prod.ext_iff]
      rw [e]
      exact h)
    (fun k v => by cases v <;> rfl) (fun k => by
      show Instr.sameBits (9999 + 1) (key3 k) (key3 k) = true
      simp [Instr.sameBits, key3])
theorem klawS : KLaw Try.prog 9 keyS := klaw_string Try.underlying9

/-- block b is a map whose entries are the graph of f -/
def MapFn {κ : Type} (w : World) (b : Nat) (enc : κ → Value) (f : κ → Option Int) : Prop :=
  ∃ es clock, w.heap[b]? = some (.map es clock) ∧ (∀ e ∈ es.toList, ∃ k v, e.key = enc k ∧ e.val = .int .i64 v ∧ f k = some v) ∧
    (∀ k v, f k = some v → ∃ e ∈ es.toList, e.key = enc k) ∧ es.toList.Pairwise (fun x y => x.key ≠ y.key)

section
variable {κ : Type} {P : Program} {kt : TypeId} {enc : κ → Value} {f : κ → Option Int} {w : World} {b : Nat}

theorem MapFn.lt (h : MapFn w b enc f) : b < w.heap.size := by
  obtain ⟨es, clock, hb, _⟩ := h
  exact (Array.getElem?_eq_some_iff.1 hb).1

theorem MapFn.of_block {w' : World} (h : MapFn w b enc f) (hb : w'.heap[b]? = w.heap[b]?) : MapFn w' b enc f := by
  obtain ⟨es, clock, h0, h1⟩ := h
  exact ⟨es, clock, hb.trans h0, h1⟩

theorem MapFn.below {w' : World} {B : Nat} (h : MapFn w b enc f) (hw : Below B w w') (hb : b < B) : MapFn w' b enc f := h.of_block (hw.block b hb)

theorem MapFn.new (w : World) (enc : κ → Value) : MapFn (w.alloc (.map #[] 0)) w.heap.size enc (fun _ => none) :=
  ⟨#[], 0, (MapKept.heap_alloc w _).1, by simp, by simp, by simp⟩

/-- the look-up of a key -/
theorem MapFn.lookup (h : MapFn w b enc f) (K : KLaw P kt enc) {t e : TypeId} (ht : P.underlying t = some (.map kt e)) (hz : (zeroValue e).run P w = .ok (.int .i64 0) w) (k : κ) (ok : Bool) :
    (Instr.lookup t (.map (some b)) (enc k) ok).run P w = .ok (if ok then .tuple #[.int .i64 ((f k).getD 0), .bool (f k).isSome] else .int .i64 ((f k).getD 0)) w := by
  obtain ⟨es, clock, hb, h1, h2, h3⟩ := h
  rcases K.find w k es.toList (fun e he => by obtain ⟨k', _, h', _⟩ := h1 e he; exact ⟨k', h'⟩) with ⟨hf, hne⟩ | ⟨j, e0, hf, hj, hk⟩
  · have hfk : f k = none := by
      cases hc : f k with
      | none => rfl
      | some v => obtain ⟨e, he, hek⟩ := h2 k v hc; exact absurd hek (hne e he)
    simp [Instr.lookup, run_underlying ht, getObj, Sem.run, hb, K.check, hf, hz, hfk, Sem.run_bind, Result.andThen]
  · have hmem : e0 ∈ es.toList := List.mem_of_getElem? hj
    obtain ⟨k', v, hk', hv, hfv⟩ := h1 e0 hmem
    obtain rfl : k' = k := K.inj _ _ (hk'.symm.trans hk)
    simp [Instr.lookup, run_underlying ht, getObj, Sem.run, hb, K.check, hf, hfv, Sem.run_bind, Result.andThen, hv]

/-- a store -/
theorem MapFn.update [DecidableEq κ] (h : MapFn w b enc f) (K : KLaw P kt enc) {t e : TypeId} (ht : P.underlying t = some (.map kt e)) (k : κ) (v : Int) :
    ∃ w', (Instr.mapUpdate t (.map (some b)) (enc k) (.int .i64 v)).run P w = .ok () w' ∧ MapFn w' b enc (fun k' => if k' = k then some v else f k') ∧ w.grownBy w' (some b) := by
  obtain ⟨es, clock, hb, h1, h2, h3⟩ := h
  have grown : ∀ o, w.grownBy { w with heap := w.heap.setIfInBounds b o } (some b) := fun o => ⟨rfl, rfl, rfl, by simp, fun i _ hi => by
    have : i ≠ b := fun e => hi (by rw [e])
    simp [Ne.symm this]⟩
  have hlt : b < w.heap.size := (Array.getElem?_eq_some_iff.1 hb).1
  rcases K.find w k es.toList (fun e he => by obtain ⟨k', _, h', _⟩ := h1 e he; exact ⟨k', h'⟩) with ⟨hf, hne⟩ | ⟨j, e0, hf, hj, hk⟩
  · refine ⟨{ w with heap := w.heap.setIfInBounds b (.map (es.push { key := enc k, val := .int .i64 v, born := clock }) (clock + 1)) }, ?_, ⟨es.push { key := enc k, val := .int .i64 v, born := clock }, clock + 1, by simp [hlt], ?_, ?_, ?_⟩, grown _⟩
    · simp [Instr.mapUpdate, run_underlying ht, getObj, setObj, Sem.run, hb, K.check, hf, Sem.run_bind, Result.andThen]
    · intro e he
      simp at he
      rcases he with he | rfl
      · obtain ⟨k', v', a1, a2, a3⟩ := h1 e (by simpa using he)
        have : k' ≠ k := fun h => hne e (by simpa using he) (by rw [a1, h])
        exact ⟨k', v', a1, a2, by simp [this, a3]⟩
      · exact ⟨k, v, rfl, rfl, by simp⟩
    · intro k' v' hkv
      by_cases hkk : k' = k
      · subst hkk; exact ⟨{ key := enc k', val := .int .i64 v, born := clock }, by simp, rfl⟩
      · simp only [hkk, if_false] at hkv
        obtain ⟨e, he, hek⟩ := h2 k' v' hkv
        exact ⟨e, by simp; exact .inl (by simpa using he), hek⟩
    · simp only [Array.toList_push, List.pairwise_append]
      refine ⟨h3, by simp, ?_⟩
      intro x hx y hy
      simp at hy; subst hy
      exact hne x hx
  · have hmem : e0 ∈ es.toList := List.mem_of_getElem? hj
    have hj' : es[j]? = some e0 := by simpa using hj
    obtain ⟨hjlt, hje⟩ := Array.getElem?_eq_some_iff.1 hj'
    refine ⟨{ w with heap := w.heap.setIfInBounds b (.map (es.modify j fun e => { e with key := enc k, val := .int .i64 v }) clock) }, ?_, ⟨es.modify j fun e => { e with key := enc k, val := .int .i64 v }, clock, by simp [hlt], ?_, ?_, ?_⟩, grown _⟩
    · simp [Instr.mapUpdate, run_underlying ht, getObj, setObj, Sem.run, hb, K.check, hf, Sem.run_bind, Result.andThen, hj', hk, K.stays]
    · intro e he
      obtain ⟨i, hi, rfl⟩ := List.getElem_of_mem he
      simp at hi
      simp only [Array.getElem_toList, Array.getElem_modify]
      by_cases hij : j = i
      · subst hij; simp only [if_true]; exact ⟨k, v, rfl, rfl, by simp⟩
      · rw [if_neg hij]
        obtain ⟨k', v', a1, a2, a3⟩ := h1 es[i] (by simp)
        have : k' ≠ k := by
          intro h; subst h
          have hp := List.pairwise_iff_getElem.1 h3
          rcases Nat.lt_or_gt_of_ne hij with hlt' | hgt
          · exact hp j i (by simpa using hjlt) (by simpa using hi) hlt' (by simp [hje, hk, a1])
          · exact hp i j (by simpa using hi) (by simpa using hjlt) hgt (by simp [hje, hk, a1])
        exact ⟨k', v', a1, a2, by simp [this, a3]⟩
    · intro k' v' hkv
      by_cases hkk : k' = k
      · subst hkk
        refine ⟨{ e0 with key := enc k', val := .int .i64 v }, ?_, rfl⟩
        rw [List.mem_iff_getElem?]
        exact ⟨j, by simp [hj']⟩
      · simp only [hkk, if_false] at hkv
        obtain ⟨e, he, hek⟩ := h2 k' v' hkv
        obtain ⟨i, hi, rfl⟩ := List.getElem_of_mem he
        have hij : j ≠ i := by
          intro h; subst h
          simp [hje, hk] at hek
          exact hkk (K.inj _ _ hek.symm)
        refine ⟨es[i]'(by simpa using hi), ?_, by simpa using hek⟩
        rw [List.mem_iff_getElem?]
        exact ⟨i, by simp [hij]⟩
    · rw [List.pairwise_iff_getElem] at h3 ⊢
      intro i i' hi hi' hlt'
      simp at hi hi'
      have := h3 i i' (by simpa using hi) (by simpa using hi') hlt'
      simp only [Array.getElem_toList, Array.getElem_modify] at this ⊢
      by_cases h1' : j = i
      · subst h1'
        have h2' : j ≠ i' := by omega
        rw [if_pos rfl, if_neg h2']
        simp [hje, hk] at this
        simpa using this
      · by_cases h2' : j = i'
        · subst h2'
          rw [if_neg h1', if_pos rfl]
          simp [hje, hk] at this
          simpa using this
        · rw [if_neg h1', if_neg h2']; exact this
end

/-- 'm[k] = v' at the operation, for the walk -/
theorem wpList_mapUpdate_fn {κ : Type} [DecidableEq κ] {P : Program} (w : World) {ops : Array Oper} {rest : List Oper} {o : Oper} {a : Act} {Q : Exit → Act → World → Prop}
    (hg : o.guard = none) (m x v : Operand) (t : TypeId) (hop : o.op = Op.mapUpdate t m x v ∨ o.op = Op.insert t m x v)
    (kt e : TypeId) (enc : κ → Value) (K : KLaw P kt enc) (ht : P.underlying t = some (.map kt e)) (b : Nat) (f : κ → Option Int)
    (hm : a.eval m = .map (some b)) (hf : MapFn w b enc f) (k : κ) (z : Int) (hx : a.eval x = enc k) (hv : a.eval v = .int .i64 z)
    (hK : ∀ w', MapFn w' b enc (fun k' => if k' = k then some z else f k') → w.grownBy w' (some b) → wpList P ops Q rest (a.put o.dst undef) w') :
    wpList P ops Q (o :: rest) a w := by
  refine wpList_plain hg fun K' hK' => ?_
  obtain ⟨w', hrun, r1, r2⟩ := hf.update K ht k z
  unfold Oper.wp
  rcases hop with hop | hop
  · simp [execOp, hop, hm, hx, hv, hrun, Result.andThen]
    exact hK' _ _ (hK w' r1 r2)
  · simp [execOp, hop, hm, hx, hv, hrun, Result.andThen]
    exact hK' _ _ (hK w' r1 r2)

end Go.Proofs.Yteleehldcpjndaa
