/-
  The walks of layer 19 (plan): places.
-/
import Derived.Test.YtcbhdjpigadhmaaProg
import Derived.Test.YtcbhdjpigadhmaaHeap
import Derived.Test.YtcbhdjpigadhmaaMaps
import Derived.Test.YtcbhdjpigadhmaaApp
set_option linter.unusedVariables false
set_option linter.unusedSimpArgs false
namespace Go.Proofs.Ytcbhdjpigadhmaa
open Go.RowKit

theorem keyS : KeyOk Try.prog 9 Value.string := keyStr Try.underlying9
theorem zeroI : ∀ w, (zeroValue 3).run Try.prog w = .ok (.int .i64 0) w := fun w => by kernel_rfl
theorem strE : Elem Try.prog 22 9 1 16 := Elem.of (z := .string ⟨#[]⟩) Try.underlying22 (by kernel_rfl) rfl (by decide) (by decide)
theorem intE : Elem Try.prog 59 3 1 8 := Elem.of (z := .int .i64 0) Try.underlying59 (by kernel_rfl) rfl (by decide) (by decide)
theorem islE : Elem Try.prog 58 59 1 24 := Elem.of (z := .slice none 0 0) Try.underlying58 (by kernel_rfl) rfl (by decide) (by decide)
theorem strEq (a b : ByteArray) : (a.toList == b.toList) = decide (a = b) := by rw [← beq_toListBytes, beq_bytes]

section
variable {P : Program} {ops : Array Oper} {rest : List Oper} {o : Oper} {a : Act} {Q : Exit → Act → World → Prop} {t bytes : Nat}
/-- append(out, x): one number. -/
theorem wpList_appI (HE : Elem P t 3 1 bytes) (hgd : o.guard = none) (s x : Operand) (ho : o.op = .call { callee := .builtin .append, args := #[s, x], argTypes := #[t, t] })
    {fp : Nat → Prop} {w0 W : World} {F : List Chunk} {v : Value} {l : List Int} (HM : Mem fp w0 (IRow v l :: F) W) (hs : a.eval s = v)
    (y : Int) (nb : Nat) (hx : a.eval x = .slice (some ⟨nb, 0, none⟩) 1 1) (hnb : nb = W.heap.size)
    (hb : (l.length + 1) * bytes ≤ 140737488355328)
    (h : ∀ v' w', Mem fp w0 (IRow v' (l ++ [y]) :: F) w' → Mut (fun k => v.ownBlock = some k) W w' → wpList P ops Q rest (a.put o.dst v') w') :
    wpList P ops Q (o :: rest) a (W.alloc (.cells #[.int .i64 y] 3)) := by
  refine wpList_app1 HE hgd s x ho HM hs #[.int .i64 y] nb hx hnb rfl (by simp [Value.oneCell']) hb (fun v' w' hm hmu => h v' w' ?_ hmu)
  have e1 : (l ++ [y]).length = l.length + 1 := by simp
  have e2 : ints (l ++ [y]) = ints l ++ [.int .i64 y] := ints_append _ _
  unfold IRow
  rw [e1, e2]
  exact hm
end

/-- The places of names; none: one of them is not ahead. -/
def placesOf (m : List (ByteArray × Int)) (ahead : Int) : List ByteArray → Option (List Int)
  | [] => some []
  | s :: r => match mget m s with
    | none => none
    | some i => if ahead ≤ i then none else (placesOf m ahead r).map (i :: ·)
theorem places_snoc {m : List (ByteArray × Int)} {ahead : Int} (s : ByteArray) : ∀ {l : List ByteArray} {a : List Int}, placesOf m ahead l = some a →
    placesOf m ahead (l ++ [s]) = (match mget m s with | none => none | some i => if ahead ≤ i then none else some (a ++ [i]))
  | [], a, h => by
    cases h
    simp only [List.nil_append, placesOf]
    cases mget m s with
    | none => rfl
    | some i => simp only; split <;> rfl
  | x :: l, a, h => by
    simp only [placesOf, List.cons_append] at h ⊢
    cases hx : mget m x with
    | none => rw [hx] at h; cases h
    | some i =>
      rw [hx] at h
      simp only at h ⊢
      split at h
      · cases h
      · rename_i hi
        obtain ⟨a', h1, rfl⟩ := Option.map_eq_some_iff.1 h
        rw [if_neg hi, places_snoc s h1]
        cases mget m s with
        | none => rfl
        | some j => simp only; split <;> simp
theorem places_none {m : List (ByteArray × Int)} {ahead : Int} : ∀ {l r : List ByteArray}, placesOf m ahead l = none → placesOf m ahead (l ++ r) = none
  | [], r, h => by cases h
  | x :: l, r, h => by
    simp only [placesOf, List.cons_append] at h ⊢
    cases hx : mget m x with
    | none => rfl
    | some i =>
      rw [hx] at h
      simp only at h ⊢
      split
      · rfl
      · rename_i hi
        rw [if_neg hi] at h
        rw [places_none (Option.map_eq_none_iff.1 h)]; rfl
theorem places_len {m : List (ByteArray × Int)} {ahead : Int} : ∀ {l : List ByteArray} {a : List Int}, placesOf m ahead l = some a → a.length = l.length
  | [], a, h => by cases h; rfl
  | x :: l, a, h => by
    simp only [placesOf] at h
    cases hx : mget m x with
    | none => rw [hx] at h; cases h
    | some i =>
      rw [hx] at h
      simp only at h
      split at h
      · cases h
      · obtain ⟨a', h1, rfl⟩ := Option.map_eq_some_iff.1 h
        simp [places_len h1]

set_option maxHeartbeats 1000000 in
theorem places_calls {mb : Nat} {m : List (ByteArray × Int)} (LV : Value) (l : List ByteArray) (ahead : Int) (w : World) (hM : (MapC mb Value.string (Value.int .i64) m).ok w) (hL : Strs w LV l) (hb : l.length ≤ 100000) :
    Calls Try.prog 43 #[.map (some mb), LV, .int .i64 ahead] w fun e w' => (placesOf m ahead l = none → e = .returned (.tuple #[.slice none 0 0, .bool false]) ∧ Mem none_ w [] w') ∧
      (∀ a, placesOf m ahead l = some a → ∃ v, e = .returned (.tuple #[v, .bool true]) ∧ Mem none_ w [IRow v a] w') := by
  obtain ⟨A, c, rfl, h1, h2, h3, h4⟩ := id hL
  unfold maxLen at h2
  have HM0 := (Mem.start (fp := none_) w).nilI
  go_enter Try.func43, Try.ntmps43
  go_wp2
  go_loopw [8, 15] (fun v8 i wr => ∃ (k : Nat) (a : List Int), k ≤ l.length ∧ i = .int .i64 k ∧ Hid (placesOf m ahead (l.take k) = some a) ∧ Mem none_ w [IRow v8 a] wr) (fun _ i _ => l.length - (intOf i).toNat)
  case atStart => exact ⟨0, [], Nat.zero_le _, rfl, by unfold Hid; rfl, HM0⟩
  case round =>
    clear HM0
    obtain ⟨k, a, hk, rfl, HP, HM⟩ := hrel
    by_cases hlt : k < l.length
    · obtain ⟨b, o, rfl, hcells⟩ := h4.resolve_left (by omega)
      clear h4 h3
      have hx0 : wr.cell? ⟨b, o + k, none⟩ = some (.string l[k]) := HM.mu.cell (hcells k _ (strs_get hlt)) (fun h => h)
      clear hcells
      have HS := Lib.hid (places_snoc l[k] HP.out)
      have hal : a.length = k := by rw [places_len HP.out, List.length_take]; omega
      have HT := Lib.hid (List.take_succ_eq_append_getElem hlt)
      have HN : placesOf m ahead (l.take (k + 1)) = none → placesOf m ahead l = none := fun h => by
        have := places_none (r := l.drop (k + 1)) h
        rwa [List.take_append_drop] at this
      have hMr : (MapC mb Value.string (Value.int .i64) m).ok wr := (MapC mb Value.string (Value.int .i64) m).loc w wr (fun b' hb' => HM.mu.block b' ((MapC mb Value.string (Value.int .i64) m).lt w b' hM hb') (fun h => h)) hM
      generalize l[k] = x at *
      cases hg : mget m x with
      | none =>
        have hNone := Lib.hid (HN (by rw [HT.out, HS.out, hg]))
        clear HN
        go_wp2_with (at_lookup; refine wpList_get keyS Try.underlying57 zeroI rfl _ _ true rfl hMr rfl x rfl (.tuple #[.int .i64 0, .bool false]) (by rw [if_pos rfl, hg]; simp [mhas, hg]) ?_)
        go_ret2
        exact ⟨fun _ => ⟨rfl, HM.sel [] (by decide)⟩, fun a h => by rw [hNone.out] at h; cases h⟩
      | some i =>
        by_cases hi : ahead ≤ i
        · have hNone := Lib.hid (HN (by rw [HT.out, HS.out, hg]; simp only; rw [if_pos hi]))
          have hid : decide (ahead ≤ i) = true := decide_eq_true hi
          clear HN
          go_wp2_with (at_lookup; refine wpList_get keyS Try.underlying57 zeroI rfl _ _ true rfl hMr rfl x rfl (.tuple #[.int .i64 i, .bool true]) (by rw [if_pos rfl, hg]; simp [mhas, hg]) ?_)
          go_ret2
          exact ⟨fun _ => ⟨rfl, HM.sel [] (by decide)⟩, fun a h => by rw [hNone.out] at h; cases h⟩
        · have hSome := Lib.hid (show placesOf m ahead (l.take (k + 1)) = some (a ++ [i]) by rw [HT.out, HS.out, hg]; simp only; rw [if_neg hi])
          have hid : decide (ahead ≤ i) = false := decide_eq_false hi
          clear HN hi
          go_wp2_with (first | (at_lookup; refine wpList_get keyS Try.underlying57 zeroI rfl _ _ true rfl hMr rfl x rfl (.tuple #[.int .i64 i, .bool true]) (by rw [if_pos rfl, hg]; simp [mhas, hg]) ?_) | (at_builtin; refine wpList_appI intE rfl _ _ rfl HM rfl i _ rfl ?hnb ?hb ?_; (case hnb => simp); (case hb => omega); intro v' w' HM3 HU3))
          go_roundw
          case rel => exact ⟨k + 1, a ++ [i], by omega, by go_num, hSome, HM3⟩
          case measure => simp [intOf]; omega
    · have e : k = l.length := by omega
      subst e
      have hAll := HP.out
      rw [List.take_length] at hAll
      have HA := Lib.hid hAll
      clear HP hAll
      go_wp2
      go_ret2
      exact ⟨fun h => by (have := HA.out; rw [h] at this; cases this), fun a' h => by (have := HA.out; rw [h] at this; cases this); exact ⟨_, rfl, HM⟩⟩
end Go.Proofs.Ytcbhdjpigadhmaa
