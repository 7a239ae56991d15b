/-
  Maps that the call has made: what they hold, and the operations on them.
-/
import Derived.Test.YtliglejbkpjamaaVBase
import Derived.Maps.OwnOps
import Derived.Maps.OwnSet
set_option linter.unusedVariables false
set_option linter.unusedSimpArgs false
namespace Go.Proofs.Ytliglejbkpjamaa
open Go.RowKit

/-- A type of keys: told apart as the model does. -/
structure KeyOk (P : Program) (kt : TypeId) {κ : Type} [DecidableEq κ] (kenc : κ → Value) : Prop where
  check : ∀ empty k w, (Instr.checkKey empty 10000 kt (kenc k)).run P w = .ok () w
  find : ∀ k (es : List MapEntry) (ks : List κ) w, es.map (·.key) = ks.map kenc → (Instr.findKey kt (kenc k) es).run P w = .ok ((ks.findIdx? (fun x => decide (k = x))).bind fun i => es[i]?.map fun e => (i, e.val)) w
  bits : ∀ k, Instr.sameBits 10000 (kenc k) (kenc k) = true

section
variable {κ ν : Type} [DecidableEq κ]
def mget (m : List (κ × ν)) (k : κ) : Option ν := (m.find? (fun p => decide (k = p.1))).map (·.2)
def mput (m : List (κ × ν)) (k : κ) (v : ν) : List (κ × ν) := match m.findIdx? (fun p => decide (k = p.1)) with | some i => m.set i (k, v) | none => m ++ [(k, v)]
def mhas (m : List (κ × ν)) (k : κ) : Bool := (mget m k).isSome

theorem mget_nil (k : κ) : mget ([] : List (κ × ν)) k = none := rfl
theorem mget_cons (p : κ × ν) (m : List (κ × ν)) (k : κ) : mget (p :: m) k = if k = p.1 then some p.2 else mget m k := by
  unfold mget
  by_cases h : k = p.1 <;> simp [List.find?_cons, h]
theorem mput_nil (k : κ) (v : ν) : mput ([] : List (κ × ν)) k v = [(k, v)] := rfl
theorem mput_cons (p : κ × ν) (m : List (κ × ν)) (k : κ) (v : ν) : mput (p :: m) k v = if k = p.1 then (k, v) :: m else p :: mput m k v := by
  unfold mput
  by_cases h : k = p.1
  · simp [List.findIdx?_cons, h]
  · simp only [List.findIdx?_cons, h, decide_false, Bool.false_eq_true, if_false]
    cases m.findIdx? (fun p => decide (k = p.1)) <;> simp
theorem mget_put (m : List (κ × ν)) (k k' : κ) (v : ν) : mget (mput m k v) k' = if k' = k then some v else mget m k' := by
  induction m with
  | nil => rw [mput_nil, mget_cons]
  | cons p m ih =>
    rw [mput_cons]
    by_cases h : k = p.1
    · rw [if_pos h, mget_cons, mget_cons]
      by_cases h' : k' = k
      · simp [h']
      · simp only [h', if_false]
        rw [if_neg (by rw [← h]; exact h')]
    · rw [if_neg h, mget_cons, ih, mget_cons]
      by_cases h' : k' = p.1
      · have : ¬ k' = k := by rw [h']; exact fun e => h e.symm
        simp [h', this]
        intro e; exact absurd e.symm h
      · simp [h']
theorem mput_length (m : List (κ × ν)) (k : κ) (v : ν) : (mput m k v).length = if mhas m k then m.length else m.length + 1 := by
  induction m with
  | nil => rfl
  | cons p m ih =>
    rw [mput_cons]
    unfold mhas
    rw [mget_cons]
    by_cases h : k = p.1
    · simp [h]
    · rw [if_neg h, if_neg h, List.length_cons, ih]
      unfold mhas
      split <;> simp
theorem mput_length_le (m : List (κ × ν)) (k : κ) (v : ν) : (mput m k v).length ≤ m.length + 1 := by rw [mput_length]; split <;> omega
theorem mput_new {m : List (κ × ν)} {k : κ} (h : mget m k = none) (v : ν) : mput m k v = m ++ [(k, v)] := by
  induction m with
  | nil => rfl
  | cons p m ih =>
    rw [mget_cons] at h
    by_cases h' : k = p.1
    · simp [h'] at h
    · rw [if_neg h'] at h
      rw [mput_cons, if_neg h', ih h]; rfl
theorem mget_find (m : List (κ × ν)) (k : κ) : mget m k = (m.findIdx? (fun p => decide (k = p.1))).bind fun i => m[i]?.map (·.2) := by
  induction m with
  | nil => rfl
  | cons p m ih =>
    rw [mget_cons, List.findIdx?_cons]
    by_cases h : k = p.1
    · simp [h]
    · simp only [h, if_false, decide_false, Bool.false_eq_true]
      rw [ih]
      cases m.findIdx? (fun p => decide (k = p.1)) <;> simp

/-- A map's block: its entries, as they were put. -/
def MapC (b : Nat) (kenc : κ → Value) (venc : ν → Value) (m : List (κ × ν)) : Chunk where
  fp k := k = b
  ok w := ∃ es clk, w.heap[b]? = some (.map es clk) ∧ es.toList.map (fun e => (e.key, e.val)) = m.map (fun p => (kenc p.1, venc p.2)) ∧ (∀ e, e ∈ es.toList → e.born < clk) ∧ (es.toList.map (·.born)).Nodup
  loc w w' h hw := by obtain ⟨es, clk, h1, h2⟩ := hw; exact ⟨es, clk, (h b rfl).trans h1, h2⟩
  lt w k hw hk := by subst hk; obtain ⟨es, clk, h1, h2⟩ := hw; exact (Array.getElem?_eq_some_iff.1 h1).1

omit [DecidableEq κ] in
theorem MapC.made {fp : Nat → Prop} {w0 w : World} {F : List Chunk} (h : Mem fp w0 F w) (kenc : κ → Value) (venc : ν → Value) : Mem fp w0 (MapC w.heap.size kenc venc [] :: F) (w.alloc (.map #[] 0)) :=
  h.new ((Mut.refl _ _).alloc _) ⟨#[], 0, heap_alloc_new w _, rfl, by simp, by simp⟩ (fun b hb => Nat.le_of_eq hb.symm)

variable {P : Program} {kt et t : TypeId} {kenc : κ → Value} {venc : ν → Value} {b : Nat} {m : List (κ × ν)} {w : World}

theorem find_idx (m : List (κ × ν)) (k : κ) : ((m.map (·.1)).findIdx? (fun x => decide (k = x))) = m.findIdx? (fun p => decide (k = p.1)) := by
  rw [List.findIdx?_map]; rfl

theorem MapC.find (K : KeyOk P kt kenc) {es : Array MapEntry} (he : es.toList.map (fun e => (e.key, e.val)) = m.map (fun p => (kenc p.1, venc p.2))) (k : κ) (w : World) :
    (Instr.findKey kt (kenc k) es.toList).run P w = .ok ((m.findIdx? (fun p => decide (k = p.1))).bind fun i => m[i]?.map fun p => (i, venc p.2)) w := by
  have hk : es.toList.map (·.key) = (m.map (·.1)).map kenc := by
    have := congrArg (List.map Prod.fst) he
    simpa [List.map_map, Function.comp_def] using this
  have hv : ∀ i : Nat, (es.toList[i]?).map (fun e => e.val) = (m[i]?).map (fun p => venc p.2) := by
    intro i
    have := congrArg (fun l => (l[i]?).map Prod.snd) he
    simpa [List.getElem?_map, Option.map_map, Function.comp_def] using this
  rw [K.find k es.toList (m.map (·.1)) w hk, find_idx]
  congr 1
  cases m.findIdx? (fun p => decide (k = p.1)) with
  | none => rfl
  | some i =>
    have := hv i
    simp only [Option.bind_some]
    cases h1 : es.toList[i]? <;> cases h2 : m[i]? <;> simp_all

theorem MapC.lookup (K : KeyOk P kt kenc) (ht : P.underlying t = some (.map kt et)) {z : Value} (hz : (zeroValue et).run P w = .ok z w) (h : (MapC b kenc venc m).ok w) (k : κ) (c : Bool) :
    (Instr.lookup t (.map (some b)) (kenc k) c).run P w = .ok (if c then .tuple #[((mget m k).map venc).getD z, .bool (mhas m k)] else ((mget m k).map venc).getD z) w := by
  obtain ⟨es, clk, hb, he, _⟩ := h
  unfold Instr.lookup
  have hf := MapC.find (venc := venc) K he k w
  simp only [Sem.run_bind, run_underlying ht, Result.andThen_ok, getObj, Sem.run, hb, K.check, Sem.run_pure, hf]
  unfold mhas
  rw [mget_find]
  cases hh : m.findIdx? (fun p => decide (k = p.1)) with
  | none => simp [hz]
  | some i =>
    have hi : i < m.length := by
      have := List.findIdx?_eq_some_iff_getElem.1 hh
      exact this.1
    simp [hi]

theorem born_push {es : Array MapEntry} {clk : Nat} (h : (∀ e, e ∈ es.toList → e.born < clk) ∧ (es.toList.map (·.born)).Nodup) (k v : Value) :
    (∀ e, e ∈ (es.push { key := k, val := v, born := clk }).toList → e.born < clk + 1) ∧ ((es.push { key := k, val := v, born := clk }).toList.map (·.born)).Nodup := by
  refine ⟨fun e he => ?_, ?_⟩
  · rw [Array.toList_push] at he
    rcases List.mem_append.1 he with he | he
    · have := h.1 e he; omega
    · simp at he; subst he; simp
  · rw [Array.toList_push, List.map_append, List.nodup_append]
    refine ⟨h.2, by simp, fun a ha b hb => ?_⟩
    obtain ⟨e, he, rfl⟩ := List.mem_map.1 ha
    simp at hb
    have := h.1 e he
    omega
theorem born_modify {es : Array MapEntry} {clk : Nat} (h : (∀ e, e ∈ es.toList → e.born < clk) ∧ (es.toList.map (·.born)).Nodup) (i : Nat) (k v : Value) :
    (∀ e, e ∈ (es.modify i fun e => { e with key := k, val := v }).toList → e.born < clk) ∧ ((es.modify i fun e => { e with key := k, val := v }).toList.map (·.born)).Nodup := by
  have e1 : (es.modify i fun e => { e with key := k, val := v }).toList.map (·.born) = es.toList.map (·.born) := by
    apply List.ext_getElem?
    intro j
    rw [Array.toList_modify, List.getElem?_map, List.getElem?_map, List.getElem?_modify]
    split <;> simp [Option.map_map, Function.comp_def]
  refine ⟨fun e he => ?_, by rw [e1]; exact h.2⟩
  have : e.born ∈ es.toList.map (·.born) := by rw [← e1]; exact List.mem_map.2 ⟨e, he, rfl⟩
  obtain ⟨e', he', h'⟩ := List.mem_map.1 this
  rw [← h']; exact h.1 e' he'

theorem MapC.update (K : KeyOk P kt kenc) (ht : P.underlying t = some (.map kt et)) {w0 : World} {fp : Nat → Prop} {F : List Chunk} (h : Mem fp w0 (MapC b kenc venc m :: F) w) (k : κ) (v : ν) :
    ∃ w', (Instr.mapUpdate t (.map (some b)) (kenc k) (venc v)).run P w = .ok () w' ∧ Mem fp w0 (MapC b kenc venc (mput m k v) :: F) w' ∧ Mut (fun i => i = b) w w' := by
  obtain ⟨es, clk, hb, he, hbo⟩ := h.head
  have hf := MapC.find (venc := venc) K he k w
  have hlt : b < w.heap.size := (Array.getElem?_eq_some_iff.1 hb).1
  have hset : ∀ o, Mut (fun i => i = b) w { w with heap := w.heap.setIfInBounds b o } := fun o =>
    ⟨rfl, rfl, rfl, by simp, fun i hi hn => by rw [Array.getElem?_setIfInBounds_ne (fun e => hn e.symm)]⟩
  have hnew : ∀ o, ({ w with heap := w.heap.setIfInBounds b o } : World).heap[b]? = some o := fun o => by simp [hlt]
  unfold Instr.mapUpdate
  simp only [Sem.run_bind, run_underlying ht, Result.andThen_ok, getObj, Sem.run, hb, K.check, Sem.run_pure, hf]
  cases hh : m.findIdx? (fun p => decide (k = p.1)) with
  | none =>
    refine ⟨{ w with heap := w.heap.setIfInBounds b (.map (es.push { key := kenc k, val := venc v, born := clk }) (clk + 1)) }, by simp [setObj, Sem.run, hb], h.turn (hset _) ⟨_, _, hnew _, ?_, (born_push hbo _ _).1, (born_push hbo _ _).2⟩ (fun i hi => .inl hi), hset _⟩
    simp [mput, hh, he]
  | some i =>
    have hi : i < m.length := (List.findIdx?_eq_some_iff_getElem.1 hh).1
    have hki : m[i].1 = k := (of_decide_eq_true (List.findIdx?_eq_some_iff_getElem.1 hh).2.1).symm
    have hil : i < es.size := by have := congrArg List.length he; simp at this; omega
    have hkey : es[i].key = kenc k := by
      have := congrArg (fun l => l[i]?) he
      simp [hi, hil, hki] at this
      exact this.1
    refine ⟨{ w with heap := w.heap.setIfInBounds b (.map (es.modify i fun e => { e with key := kenc k, val := venc v }) clk) }, ?_, h.turn (hset _) ⟨_, _, hnew _, ?_, (born_modify hbo _ _ _).1, (born_modify hbo _ _ _).2⟩ (fun i hi => .inl hi), hset _⟩
    · simp [hi, hil, hkey, Instr.keyThatStays, K.bits, setObj, Sem.run, hb]
    · rw [Array.toList_modify]
      apply List.ext_getElem?
      intro j
      have := congrArg (fun l => l[j]?) he
      simp only [List.getElem?_map] at this
      simp only [mput, hh, List.getElem?_map, List.getElem?_modify, List.getElem?_set]
      by_cases hj : i = j
      · subst hj; simp [hi, hil]
      · simpa [hj] using this
end

section
variable {P : Program} {kt st : TypeId}
theorem beq_bytes (a b : ByteArray) : (a == b) = decide (a = b) := by
  cases a with | mk a => cases b with | mk b =>
  show (a == b) = _
  rw [Bool.eq_iff_iff]; simp

theorem findNow_str (k : ByteArray) : ∀ (es : List MapEntry) (ks : List ByteArray) (i : Nat), es.map (·.key) = ks.map Value.string →
    Instr.findNow .string (.string k) es i = some ((ks.findIdx? (fun x => decide (k = x))).bind fun j => es[j]?.map fun e => (i + j, e.val))
  | [], [], i, _ => rfl
  | [], _ :: _, i, h => by simp at h
  | _ :: _, [], i, h => by simp at h
  | e :: es, x :: ks, i, h => by
    simp only [List.map_cons, List.cons.injEq] at h
    unfold Instr.findNow
    rw [h.1]
    simp only [Instr.sameNow, beq_bytes]
    by_cases hk : k = x
    · simp [hk, List.findIdx?_cons]
    · simp only [hk, decide_false, List.findIdx?_cons, Bool.false_eq_true, if_false]
      rw [findNow_str k es ks (i + 1) h.2]
      cases ks.findIdx? (fun x => decide (k = x)) with
      | none => rfl
      | some j => simp [Nat.add_comm, Nat.add_left_comm]

theorem keyStr (hk : P.underlying kt = some .string) : KeyOk P kt Value.string where
  check empty k w := by unfold Instr.checkKey; simp [run_underlying hk]
  find k es ks w h := by
    unfold Instr.findKey
    simp only [Sem.run_bind, run_underlying hk, Result.andThen_ok]
    rw [findNow_str k es ks 0 h]
    simp only [Nat.zero_add, Sem.run_pure]
  bits k := by unfold Instr.sameBits; simp [beq_bytes]

def pairV (p : ByteArray × ByteArray) : Value := .agg #[.string p.1, .string p.2]

theorem part_str (hs : P.underlying st = some .string) (hz : (P.info? st).map (·.size) = some 1) (c : Array Value) (k : Nat) (v : Value) (hv : c[k]? = some v) (w : World) : (part st c k).run P w = .ok v w := by
  have hag : ∀ w, (isAgg st).run P w = .ok false w := fun w => by simp [isAgg, run_underlying hs]
  simp [part, hag, hv]
theorem equalIn_pair (d : Nat) (hk : P.underlying kt = some (.array 2 st)) (hs : P.underlying st = some .string) (hz : (P.info? st).map (·.size) = some 1) (a b : ByteArray × ByteArray) (w : World) :
    (Op.equalIn (d + 2) kt (pairV a) (pairV b)).run P w = .ok (decide (a = b)) w := by
  obtain ⟨i, hi, hsz⟩ := Option.map_eq_some_iff.1 hz
  have hso : ∀ w, (sizeOf st).run P w = .ok 1 w := fun w => by simp [sizeOf, typeInfo, hi, hsz]
  have he : ∀ (x y : ByteArray) w, (Op.equalIn (d + 1) st (.string x) (.string y)).run P w = .ok (decide (x = y)) w := fun x y w => by
    unfold Op.equalIn
    simp [run_underlying hs, beq_bytes]
  obtain ⟨a1, a2⟩ := a
  obtain ⟨b1, b2⟩ := b
  have e0 := part_str hs hz #[Value.string a1, Value.string a2] 0 (.string a1) rfl
  have e1 := part_str hs hz #[Value.string a1, Value.string a2] 1 (.string a2) rfl
  have f0 := part_str hs hz #[Value.string b1, Value.string b2] 0 (.string b1) rfl
  have f1 := part_str hs hz #[Value.string b1, Value.string b2] 1 (.string b2) rfl
  have hr : List.range' 0 2 = [0, 1] := rfl
  unfold Op.equalIn pairV
  simp [run_underlying hk, hso, hr, e0, e1, f0, f1, he]
  by_cases h1 : a1 = b1 <;> by_cases h2 : a2 = b2 <;> simp [h1, h2]
theorem equal_pair (hk : P.underlying kt = some (.array 2 st)) (hs : P.underlying st = some .string) (hz : (P.info? st).map (·.size) = some 1) (a b : ByteArray × ByteArray) (w : World) :
    (Op.equal kt (pairV a) (pairV b)).run P w = .ok (decide (a = b)) w := equalIn_pair 9998 hk hs hz a b w
theorem check_pair (d : Nat) (empty : Bool) (hk : P.underlying kt = some (.array 2 st)) (hs : P.underlying st = some .string) (hz : (P.info? st).map (·.size) = some 1) (k : ByteArray × ByteArray) (w : World) :
    (Instr.checkKey empty (d + 2) kt (pairV k)).run P w = .ok () w := by
  obtain ⟨i, hi, hsz⟩ := Option.map_eq_some_iff.1 hz
  have hso : ∀ w, (sizeOf st).run P w = .ok 1 w := fun w => by simp [sizeOf, typeInfo, hi, hsz]
  have hc : ∀ (x : ByteArray) w, (Instr.checkKey empty (d + 1) st (.string x)).run P w = .ok () w := fun x w => by
    unfold Instr.checkKey
    simp [run_underlying hs]
  obtain ⟨a1, a2⟩ := k
  have e0 := part_str hs hz #[Value.string a1, Value.string a2] 0 (.string a1) rfl
  have e1 := part_str hs hz #[Value.string a1, Value.string a2] 1 (.string a2) rfl
  have hr : List.range' 0 2 = [0, 1] := rfl
  unfold Instr.checkKey pairV
  simp [run_underlying hk, hso, hr, e0, e1, hc]
theorem findAsking_pair (hk : P.underlying kt = some (.array 2 st)) (hs : P.underlying st = some .string) (hz : (P.info? st).map (·.size) = some 1) (k : ByteArray × ByteArray) (w : World) : ∀ (es : List MapEntry) (ks : List (ByteArray × ByteArray)) (i : Nat), es.map (·.key) = ks.map pairV →
    (Instr.findAsking kt (pairV k) es i).run P w = .ok ((ks.findIdx? (fun x => decide (k = x))).bind fun j => es[j]?.map fun e => (i + j, e.val)) w
  | [], [], i, _ => rfl
  | [], _ :: _, i, h => by simp at h
  | _ :: _, [], i, h => by simp at h
  | e :: es, x :: ks, i, h => by
    simp only [List.map_cons, List.cons.injEq] at h
    unfold Instr.findAsking
    rw [h.1]
    simp only [Sem.run_bind, equal_pair hk hs hz, Result.andThen_ok]
    by_cases hk' : k = x
    · simp [hk', List.findIdx?_cons]
    · simp only [hk', decide_false, List.findIdx?_cons, Bool.false_eq_true, if_false]
      rw [findAsking_pair hk hs hz k w es ks (i + 1) h.2]
      cases ks.findIdx? (fun x => decide (k = x)) with
      | none => rfl
      | some j => simp [Nat.add_comm, Nat.add_left_comm]

theorem keyPair (hk : P.underlying kt = some (.array 2 st)) (hs : P.underlying st = some .string) (hz : (P.info? st).map (·.size) = some 1) : KeyOk P kt pairV where
  check empty k w := check_pair 9998 empty hk hs hz k w
  find k es ks w h := by
    unfold Instr.findKey
    simp only [Sem.run_bind, run_underlying hk, Result.andThen_ok]
    cases es with
    | nil => cases ks with
      | nil => rfl
      | cons x ks => simp at h
    | cons e es =>
      have hn : Instr.findNow (.array 2 st) (pairV k) (e :: es) 0 = none := by unfold Instr.findNow; rfl
      rw [hn]
      simp only
      rw [findAsking_pair hk hs hz k w (e :: es) ks 0 h]
      simp only [Nat.zero_add]
  bits k := by unfold Instr.sameBits pairV; simp [Instr.sameBits, beq_bytes]
end

section
variable {P : Program} {ops : Array Oper} {rest : List Oper} {o : Oper} {a : Act} {Q : Exit → Act → World → Prop} {t kt et : TypeId} {κ ν : Type} [DecidableEq κ] {kenc : κ → Value} {venc : ν → Value} {b : Nat} {mm : List (κ × ν)} {W : World}
/-- 'm[k]', with or without ok. -/
theorem wpList_get (K : KeyOk P kt kenc) (ht : P.underlying t = some (.map kt et)) {z : Value} (hz : ∀ w, (zeroValue et).run P w = .ok z w) (hw : Region.wanted o (yielded ops a.tmps) = true) (m x : Operand) (c : Bool) (hop : o.op = .lookup t m x c)
    (hM : (MapC b kenc venc mm).ok W) (hm : a.eval m = .map (some b)) (k : κ) (hx : a.eval x = kenc k) (r : Value) (hr : (if c then .tuple #[((mget mm k).map venc).getD z, .bool (mhas mm k)] else ((mget mm k).map venc).getD z) = r)
    (h : wpList P ops Q rest (a.put o.dst r) W) : wpList P ops Q (o :: rest) a W := by
  refine BigFrame.wpList_want hw fun K' hK' => ?_
  have hrun := MapC.lookup K ht (hz W) hM k c
  unfold Oper.wp
  simp only [execOp, hop, hm, hx, hrun, Sem.run_bind, Result.andThen_ok, hr]
  exact hK' _ _ h
/-- 'v, ok := m[k]', where it matters only whether it is there. -/
theorem wpList_getOk (K : KeyOk P kt kenc) (ht : P.underlying t = some (.map kt et)) {z : Value} (hz : ∀ w, (zeroValue et).run P w = .ok z w) (hw : Region.wanted o (yielded ops a.tmps) = true) (m x : Operand) (hop : o.op = .lookup t m x true)
    (hM : (MapC b kenc venc mm).ok W) (hm : a.eval m = .map (some b)) (k : κ) (hx : a.eval x = kenc k) (r : Bool) (hr : mhas mm k = r)
    (h : ∀ r0, wpList P ops Q rest (a.put o.dst (.tuple #[r0, .bool r])) W) : wpList P ops Q (o :: rest) a W :=
  wpList_get K ht hz hw m x true hop hM hm k hx _ (by rw [if_pos rfl, hr]) (h _)
omit [DecidableEq κ] in
theorem MapC.len (ht : P.underlying t = some (.map kt et)) (hM : (MapC b kenc venc mm).ok W) (ty : TypeId) : (Builtin.len_ #[t] ty #[.map (some b)]).run P W = .ok (.int .i64 (mm.length : Int)) W := by
  obtain ⟨es, clk, hb, he, _⟩ := hM
  have hl : es.size = mm.length := by have := congrArg List.length he; simpa using this
  unfold Builtin.len_
  simp [run_underlying ht, getObj, Sem.run, hb, goInt, hl]
omit [DecidableEq κ] in
/-- 'len(m)'. -/
theorem wpList_lenM (ht : P.underlying t = some (.map kt et)) (hw : Region.wanted o (yielded ops a.tmps) = true) (m : Operand) (hop : o.op = .call { callee := .builtin .len, args := #[m], argTypes := #[t] })
    (hM : (MapC b kenc venc mm).ok W) (hm : a.eval m = .map (some b))
    (h : wpList P ops Q rest (a.put o.dst (.int .i64 (mm.length : Int))) W) : wpList P ops Q (o :: rest) a W := by
  refine BigFrame.wpList_want hw fun K' hK' => ?_
  unfold Oper.wp
  simp only [execOp, hop, resolve, invoke, builtin, Sem.run_bind, Sem.run_pure, Result.andThen_ok, List.map_toArray, List.map_cons, List.map_nil, hm, MapC.len ht hM]
  exact hK' _ _ h
/-- 'm[k] = v'. -/
theorem wpList_put (K : KeyOk P kt kenc) (ht : P.underlying t = some (.map kt et)) (hw : Region.wanted o (yielded ops a.tmps) = true) (m x y : Operand) (hop : o.op = .mapUpdate t m x y ∨ o.op = .insert t m x y)
    {fp : Nat → Prop} {w0 : World} {F : List Chunk} (HM : Mem fp w0 (MapC b kenc venc mm :: F) W) (hm : a.eval m = .map (some b)) (k : κ) (hx : a.eval x = kenc k) (v : ν) (hy : a.eval y = venc v)
    (h : ∀ w', Mem fp w0 (MapC b kenc venc (mput mm k v) :: F) w' → Mut (fun i => i = b) W w' → wpList P ops Q rest (a.put o.dst undef) w') : wpList P ops Q (o :: rest) a W := by
  refine BigFrame.wpList_want hw fun K' hK' => ?_
  obtain ⟨w', hrun, hM', hU⟩ := MapC.update K ht HM k v
  unfold Oper.wp
  rcases hop with hop | hop
  · simp only [execOp, hop, hm, hx, hy, hrun, Sem.run_bind, Result.andThen_ok]
    exact hK' _ _ (h w' hM' hU)
  · simp only [execOp, hop, hm, hx, hy, hrun, Sem.run_bind, Result.andThen_ok]
    exact hK' _ _ (h w' hM' hU)
end
def setV : Unit → Value := fun _ => .bool true
theorem set_get {κ : Type} [DecidableEq κ] (m : List (κ × Unit)) (k : κ) : ((mget m k).map setV).getD (.bool false) = .bool (mhas m k) := by
  unfold mhas; cases mget m k <;> rfl
end Go.Proofs.Ytliglejbkpjamaa
