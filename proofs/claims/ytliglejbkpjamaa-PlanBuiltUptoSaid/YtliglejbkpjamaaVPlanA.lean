/-
  The walks of layer 19 (plan): places.
-/
/-
  Layer 19 (plan), without Go: what building a plan comes to.
-/
/-
  Layer 19 (plan), without Go: Kahn's way ends with all just if nothing comes behind itself.
-/
/-
  The walks of layer 19 (plan): slices.Grow and slices.Concat of rows of numbers.
-/
/-
  Layer 19 (plan): what a plan is in memory; the walk of loops.
-/
import Derived.Test.YtliglejbkpjamaaProg
import Derived.Test.YtliglejbkpjamaaVHeap
import Derived.Test.YtliglejbkpjamaaVMaps
import Derived.Test.YtliglejbkpjamaaVApp
import Derived.Lib.AppendZeros
import Derived.Test.YtliglejbkpjamaaVDraw
set_option linter.unusedVariables false
set_option linter.unusedSimpArgs false
section
namespace Go.Proofs.Ytliglejbkpjamaa
open Go.RowKit

theorem keySP : KeyOk Try.prog 9 Value.string := keyStr Try.underlying9
theorem zeroI : ∀ w, (zeroValue 3).run Try.prog w = .ok (.int .i64 0) w := fun w => by kernel_rfl
theorem strEP : Elem Try.prog 23 9 1 16 := Elem.of (z := .string ⟨#[]⟩) Try.underlying23 (by kernel_rfl) rfl (by decide) (by decide)
theorem intE : Elem Try.prog 78 3 1 8 := Elem.of (z := .int .i64 0) Try.underlying78 (by kernel_rfl) rfl (by decide) (by decide)
theorem islE : Elem Try.prog 77 78 1 24 := Elem.of (z := .slice none 0 0) Try.underlying77 (by kernel_rfl) rfl (by decide) (by decide)
theorem strEqP (a b : ByteArray) : (a.toList == b.toList) = decide (a = b) := by rw [← beq_toListBytes, beq_bytes]

section
variable {P : Program} {ops : Array Oper} {rest : List Oper} {o : Oper} {a : Act} {Q : Exit → Act → World → Prop} {t bytes : Nat}
/-- append(out, x): one number. -/
theorem wpList_appI (HE : Elem P t 3 1 bytes) (hgd : o.guard = none) (s x : Operand) (ho : o.op = .call { callee := .builtin .append, args := #[s, x], argTypes := #[t, t] })
    {fp : Nat → Prop} {w0 W : World} {F : List Chunk} {v : Value} {l : List Int} (HM : Mem fp w0 (IRow v l :: F) W) (hs : a.eval s = v)
    (y : Int) (nb : Nat) (hx : a.eval x = .slice (some ⟨nb, 0, none⟩) 1 1) (hnb : nb = W.heap.size)
    (hb : (l.length + 1) * bytes ≤ 140737488355328)
    (h : ∀ v' w', Mem fp w0 (IRow v' (l ++ [y]) :: F) w' → Mut (fun k => v.ownBlock = some k) W w' → wpList P ops Q rest (a.put o.dst v') w') :
    wpList P ops Q (o :: rest) a (W.alloc (.cells #[.int .i64 y] 3)) := by
  refine wpList_app1 HE hgd s x ho HM hs #[.int .i64 y] nb hx hnb rfl (by simp [Value.oneCell']) hb (fun v' w' hm hmu => h v' w' ?_ hmu)
  have e1 : (l ++ [y]).length = l.length + 1 := by simp
  have e2 : ints (l ++ [y]) = ints l ++ [.int .i64 y] := ints_append _ _
  unfold IRow
  rw [e1, e2]
  exact hm
end

/-- The places of names; none: one of them is not ahead. -/
def placesOf (m : List (ByteArray × Int)) (ahead : Int) : List ByteArray → Option (List Int)
  | [] => some []
  | s :: r => match mget m s with
    | none => none
    | some i => if ahead ≤ i then none else (placesOf m ahead r).map (i :: ·)
theorem places_snoc {m : List (ByteArray × Int)} {ahead : Int} (s : ByteArray) : ∀ {l : List ByteArray} {a : List Int}, placesOf m ahead l = some a →
    placesOf m ahead (l ++ [s]) = (match mget m s with | none => none | some i => if ahead ≤ i then none else some (a ++ [i]))
  | [], a, h => by
    cases h
    simp only [List.nil_append, placesOf]
    cases mget m s with
    | none => rfl
    | some i => simp only; split <;> rfl
  | x :: l, a, h => by
    simp only [placesOf, List.cons_append] at h ⊢
    cases hx : mget m x with
    | none => rw [hx] at h; cases h
    | some i =>
      rw [hx] at h
      simp only at h ⊢
      split at h
      · cases h
      · rename_i hi
        obtain ⟨a', h1, rfl⟩ := Option.map_eq_some_iff.1 h
        rw [if_neg hi, places_snoc s h1]
        cases mget m s with
        | none => rfl
        | some j => simp only; split <;> simp
theorem places_none {m : List (ByteArray × Int)} {ahead : Int} : ∀ {l r : List ByteArray}, placesOf m ahead l = none → placesOf m ahead (l ++ r) = none
  | [], r, h => by cases h
  | x :: l, r, h => by
    simp only [placesOf, List.cons_append] at h ⊢
    cases hx : mget m x with
    | none => rfl
    | some i =>
      rw [hx] at h
      simp only at h ⊢
      split
      · rfl
      · rename_i hi
        rw [if_neg hi] at h
        rw [places_none (Option.map_eq_none_iff.1 h)]; rfl
theorem places_len {m : List (ByteArray × Int)} {ahead : Int} : ∀ {l : List ByteArray} {a : List Int}, placesOf m ahead l = some a → a.length = l.length
  | [], a, h => by cases h; rfl
  | x :: l, a, h => by
    simp only [placesOf] at h
    cases hx : mget m x with
    | none => rw [hx] at h; cases h
    | some i =>
      rw [hx] at h
      simp only at h
      split at h
      · cases h
      · obtain ⟨a', h1, rfl⟩ := Option.map_eq_some_iff.1 h
        simp [places_len h1]

set_option maxHeartbeats 1000000 in
theorem places_calls {mb : Nat} {m : List (ByteArray × Int)} (LV : Value) (l : List ByteArray) (ahead : Int) (w : World) (hM : (MapC mb Value.string (Value.int .i64) m).ok w) (hL : Strs w LV l) (hb : l.length ≤ 100000) :
    Calls Try.prog 54 #[.map (some mb), LV, .int .i64 ahead] w fun e w' => (placesOf m ahead l = none → e = .returned (.tuple #[.slice none 0 0, .bool false]) ∧ Mem none_ w [] w') ∧
      (∀ a, placesOf m ahead l = some a → ∃ v, e = .returned (.tuple #[v, .bool true]) ∧ Mem none_ w [IRow v a] w') := by
  obtain ⟨A, c, rfl, h1, h2, h3, h4⟩ := id hL
  unfold maxLen at h2
  have HM0 := (Mem.start (fp := none_) w).nilI
  go_enter Try.func54, Try.ntmps54
  go_wp2
  go_loopw [8, 15] (fun v8 i wr => ∃ (k : Nat) (a : List Int), k ≤ l.length ∧ i = .int .i64 k ∧ Hid (placesOf m ahead (l.take k) = some a) ∧ Mem none_ w [IRow v8 a] wr) (fun _ i _ => l.length - (intOf i).toNat)
  case atStart => exact ⟨0, [], Nat.zero_le _, rfl, by unfold Hid; rfl, HM0⟩
  case round =>
    clear HM0
    obtain ⟨k, a, hk, rfl, HP, HM⟩ := hrel
    by_cases hlt : k < l.length
    · obtain ⟨b, o, rfl, hcells⟩ := h4.resolve_left (by omega)
      clear h4 h3
      have hx0 : wr.cell? ⟨b, o + k, none⟩ = some (.string l[k]) := HM.mu.cell (hcells k _ (strs_get hlt)) (fun h => h)
      clear hcells
      have HS := Lib.hid (places_snoc l[k] HP.out)
      have hal : a.length = k := by rw [places_len HP.out, List.length_take]; omega
      have HT := Lib.hid (List.take_succ_eq_append_getElem hlt)
      have HN : placesOf m ahead (l.take (k + 1)) = none → placesOf m ahead l = none := fun h => by
        have := places_none (r := l.drop (k + 1)) h
        rwa [List.take_append_drop] at this
      have hMr : (MapC mb Value.string (Value.int .i64) m).ok wr := (MapC mb Value.string (Value.int .i64) m).loc w wr (fun b' hb' => HM.mu.block b' ((MapC mb Value.string (Value.int .i64) m).lt w b' hM hb') (fun h => h)) hM
      generalize l[k] = x at *
      cases hg : mget m x with
      | none =>
        have hNone := Lib.hid (HN (by rw [HT.out, HS.out, hg]))
        clear HN
        go_wp2_with (at_lookup; refine wpList_get keySP Try.underlying65 zeroI rfl _ _ true rfl hMr rfl x rfl (.tuple #[.int .i64 0, .bool false]) (by rw [if_pos rfl, hg]; simp [mhas, hg]) ?_)
        go_ret2
        exact ⟨fun _ => ⟨rfl, HM.sel [] (by decide)⟩, fun a h => by rw [hNone.out] at h; cases h⟩
      | some i =>
        by_cases hi : ahead ≤ i
        · have hNone := Lib.hid (HN (by rw [HT.out, HS.out, hg]; simp only; rw [if_pos hi]))
          have hid : decide (ahead ≤ i) = true := decide_eq_true hi
          clear HN
          go_wp2_with (at_lookup; refine wpList_get keySP Try.underlying65 zeroI rfl _ _ true rfl hMr rfl x rfl (.tuple #[.int .i64 i, .bool true]) (by rw [if_pos rfl, hg]; simp [mhas, hg]) ?_)
          go_ret2
          exact ⟨fun _ => ⟨rfl, HM.sel [] (by decide)⟩, fun a h => by rw [hNone.out] at h; cases h⟩
        · have hSome := Lib.hid (show placesOf m ahead (l.take (k + 1)) = some (a ++ [i]) by rw [HT.out, HS.out, hg]; simp only; rw [if_neg hi])
          have hid : decide (ahead ≤ i) = false := decide_eq_false hi
          clear HN hi
          go_wp2_with (first | (at_lookup; refine wpList_get keySP Try.underlying65 zeroI rfl _ _ true rfl hMr rfl x rfl (.tuple #[.int .i64 i, .bool true]) (by rw [if_pos rfl, hg]; simp [mhas, hg]) ?_) | (at_builtin; refine wpList_appI intE rfl _ _ rfl HM rfl i _ rfl ?hnb ?hb ?_; (case hnb => simp); (case hb => omega); intro v' w' HM3 HU3))
          go_roundw
          case rel => exact ⟨k + 1, a ++ [i], by omega, by go_num, hSome, HM3⟩
          case measure => simp [intOf]; omega
    · have e : k = l.length := by omega
      subst e
      have hAll := HP.out
      rw [List.take_length] at hAll
      have HA := Lib.hid hAll
      clear HP hAll
      go_wp2
      go_ret2
      exact ⟨fun h => by (have := HA.out; rw [h] at this; cases this), fun a' h => by (have := HA.out; rw [h] at this; cases this); exact ⟨_, rfl, HM⟩⟩
end Go.Proofs.Ytliglejbkpjamaa
end
section
namespace Go.Proofs.Ytliglejbkpjamaa

/-- A node: what a plan asks of it. -/
structure Nd where
  name : ByteArray
  src : List ByteArray
  aft : List ByteArray

/-- A plan. -/
structure PS where
  names : List ByteArray
  at_ : List (ByteArray × Int)
  needs : List (List Int)
  behind : List (List Int)
  users : List (List Int)
  states : List Int
  counts : List Int

def atRun (m : List (ByteArray × Int)) (i : Nat) : List Nd → Option (List (ByteArray × Int))
  | [] => some m
  | x :: r => if mhas m x.name then none else atRun (mput m x.name (i : Int)) (i + 1) r
def edRun (m : List (ByteArray × Int)) (n : Nat) (i : Nat) (acc : List (List Int × List Int)) : List Nd → Option (List (List Int × List Int))
  | [] => some acc
  | x :: r => match placesOf m i x.src, placesOf m n x.aft with
    | some a, some b => edRun m n (i + 1) (acc ++ [(a, b)]) r
    | _, _ => none
/-- l[k] = append(l[k], i) -/
def push (i : Int) (l : List (List Int)) (k : Int) : List (List Int) := l.set k.toNat (l.getD k.toNat [] ++ [i])
/-- for _, k := range a { l[k] = append(l[k], i) } -/
def pushAll (i : Int) (l : List (List Int)) (a : List Int) : List (List Int) := a.foldl (push i) l
def usRun (i : Nat) (us : List (List Int)) : List (List Int) → List (List Int)
  | [] => us
  | a :: r => usRun (i + 1) (pushAll i us a) r
def relax (s : List Int × List Int) (k : Int) : List Int × List Int :=
  (s.1.set k.toNat (s.1.getD k.toNat 0 - 1), if s.1.getD k.toNat 0 - 1 = 0 then s.2 ++ [k] else s.2)
def kahnP (next : List (List Int)) : Nat → Nat → List Int × List Int → Nat × (List Int × List Int)
  | 0, d, s => (d, s)
  | f + 1, d, s => if h : d < s.2.length then kahnP next f (d + 1) ((next.getD (s.2[d].toNat) []).foldl relax s) else (d, s)
/-- Those that come behind none. -/
def freeRun (i : Nat) (free : List Int) : List (List Int) → List Int
  | [] => free
  | l :: r => freeRun (i + 1) (if l = [] then free ++ [(i : Int)] else free) r
def befores (s : PS) : List (List Int) := List.zipWith (· ++ ·) s.needs s.behind
def kahnOf (n : Nat) (ls : List (List Int)) : Nat × (List Int × List Int) :=
  kahnP (usRun 0 (List.replicate n []) ls) n 0 (ls.map (fun l => (l.length : Int)), freeRun 0 [] ls)
def loopsOf (s : PS) : Bool := decide ((kahnOf s.names.length (befores s)).1 < s.names.length)
def planOf (g : List Nd) (m : List (ByteArray × Int)) (es : List (List Int × List Int)) : PS :=
  { names := g.map (·.name), at_ := m, needs := es.map (·.1), behind := es.map (·.2), users := usRun 0 (List.replicate g.length []) (es.map (·.1)), states := List.replicate g.length 0, counts := [(g.length : Int), 0, 0, 0, 0] }
def buildOf (g : List Nd) : Option PS :=
  if 512 < g.length then none else
  match atRun [] 0 g with
  | none => none
  | some m => match edRun m g.length 0 [] g with
    | none => none
    | some es => if loopsOf (planOf g m es) then none else some (planOf g m es)

def InR (n : Nat) (l : List Int) : Prop := ∀ x, x ∈ l → 0 ≤ x ∧ x < (n : Int)
theorem InR.mono {n n' : Nat} {l : List Int} (h : InR n l) (hn : n ≤ n') : InR n' l := fun x hx => ⟨(h x hx).1, by have := (h x hx).2; omega⟩
theorem push_length (i : Int) (l : List (List Int)) (k : Int) : (push i l k).length = l.length := by simp [push]
theorem pushAll_length (i : Int) : ∀ (a : List Int) (l : List (List Int)), (pushAll i l a).length = l.length
  | [], l => rfl
  | k :: a, l => by
    have := pushAll_length i a (push i l k)
    rw [push_length] at this
    exact this
theorem usRun_length : ∀ (r : List (List Int)) (i : Nat) (us : List (List Int)), (usRun i us r).length = us.length
  | [], i, us => rfl
  | a :: r, i, us => by unfold usRun; rw [usRun_length r, pushAll_length]
/-- All in it is within reach. -/
def AllR (n : Nat) (ls : List (List Int)) : Prop := ∀ l, l ∈ ls → InR n l
theorem push_in {n : Nat} {i : Nat} (hi : i < n) {l : List (List Int)} (h : AllR n l) (k : Int) : AllR n (push i l k) := by
  intro x hx
  rcases List.mem_or_eq_of_mem_set hx with hx | rfl
  · exact h x hx
  · intro y hy
    rcases List.mem_append.1 hy with hy | hy
    · by_cases hk : k.toNat < l.length
      · have : l.getD k.toNat [] ∈ l := by rw [List.getD_eq_getElem?_getD, List.getElem?_eq_getElem hk]; exact List.getElem_mem hk
        exact h _ this y hy
      · rw [List.getD_eq_getElem?_getD, List.getElem?_eq_none (by omega)] at hy
        cases hy
    · rw [List.mem_singleton.1 hy]; omega
theorem pushAll_in {n : Nat} {i : Nat} (hi : i < n) : ∀ (a : List Int) {l : List (List Int)}, AllR n l → AllR n (pushAll i l a)
  | [], l, h => h
  | k :: a, l, h => pushAll_in hi a (push_in hi h k)
theorem usRun_in {n : Nat} : ∀ (r : List (List Int)) {i : Nat} {us : List (List Int)}, i + r.length ≤ n → AllR n us → AllR n (usRun i us r)
  | [], i, us, _, h => h
  | a :: r, i, us, hi, h => by
    simp only [List.length_cons] at hi
    exact usRun_in r (by omega) (pushAll_in (by omega) a h)

/-- All places of a map are within reach. -/
def MapR (n : Nat) (m : List (ByteArray × Int)) : Prop := ∀ k v, mget m k = some v → 0 ≤ v ∧ v < (n : Int)
theorem atRun_in : ∀ (r : List Nd) {i : Nat} {m m' : List (ByteArray × Int)}, MapR i m → atRun m i r = some m' → MapR (i + r.length) m'
  | [], i, m, m', h, e => by cases e; exact h
  | x :: r, i, m, m', h, e => by
    unfold atRun at e
    split at e
    · cases e
    · have := atRun_in r (i := i + 1) (fun k v hk => by
        rw [mget_put] at hk
        split at hk
        · cases hk; omega
        · have := h k v hk; omega) e
      rw [show i + (x :: r).length = i + 1 + r.length from by simp; omega]
      exact this
theorem placesOf_in {n : Nat} {m : List (ByteArray × Int)} {ahead : Int} (hm : MapR n m) : ∀ {l : List ByteArray} {a : List Int}, placesOf m ahead l = some a → InR n a ∧ ∀ x, x ∈ a → x < ahead
  | [], a, h => by cases h; exact ⟨fun x hx => (by cases hx), fun x hx => (by cases hx)⟩
  | s :: l, a, h => by
    simp only [placesOf] at h
    cases hs : mget m s with
    | none => rw [hs] at h; cases h
    | some i =>
      rw [hs] at h
      simp only at h
      split at h
      · cases h
      · rename_i hi
        obtain ⟨a', h1, rfl⟩ := Option.map_eq_some_iff.1 h
        obtain ⟨h2, h3⟩ := placesOf_in hm h1
        refine ⟨fun x hx => ?_, fun x hx => ?_⟩
        · rcases List.mem_cons.1 hx with rfl | hx
          · exact hm _ _ hs
          · exact h2 x hx
        · rcases List.mem_cons.1 hx with rfl | hx
          · omega
          · exact h3 x hx

/-- What holds all along Kahn's way. -/
structure KI (n : Nat) (s : List Int × List Int) : Prop where
  len : s.1.length = n
  nod : s.2.Nodup
  inr : InR n s.2
  neg : ∀ k, k ∈ s.2 → s.1.getD k.toNat 0 ≤ 0
theorem getD_set {l : List Int} {i j : Nat} {x : Int} (h : i < l.length) : (l.set i x).getD j 0 = if i = j then x else l.getD j 0 := by
  rw [List.getD_eq_getElem?_getD, List.getElem?_set]
  by_cases hij : i = j
  · subst hij; simp [h]
  · simp [hij]
theorem KI.relax {n : Nat} {s : List Int × List Int} (h : KI n s) {k : Int} (h0 : 0 ≤ k) (h1 : k < (n : Int)) : KI n (relax s k) := by
  have hk : k.toNat < s.1.length := by rw [h.len]; omega
  unfold Go.Proofs.Ytliglejbkpjamaa.relax
  by_cases hz : s.1.getD k.toNat 0 - 1 = 0
  · rw [if_pos hz]
    have hnot : k ∉ s.2 := fun hm => by have := h.neg k hm; omega
    refine ⟨by rw [List.length_set]; exact h.len, List.nodup_append.2 ⟨h.nod, by simp, fun a ha b hb => ?_⟩, fun x hx => ?_, fun x hx => ?_⟩
    · rw [List.mem_singleton.1 hb]; rintro rfl; exact hnot ha
    · rcases List.mem_append.1 hx with hx | hx
      · exact h.inr x hx
      · rw [List.mem_singleton.1 hx]; exact ⟨h0, h1⟩
    · show (s.1.set _ _).getD _ _ ≤ 0
      rw [getD_set hk]
      split
      · omega
      · rename_i hne
        rcases List.mem_append.1 hx with hx | hx
        · exact h.neg x hx
        · exact absurd (congrArg Int.toNat (List.mem_singleton.1 hx).symm) hne
  · rw [if_neg hz]
    refine ⟨by rw [List.length_set]; exact h.len, h.nod, h.inr, fun x hx => ?_⟩
    show (s.1.set _ _).getD _ _ ≤ 0
    rw [getD_set hk]
    have hx' := h.inr x hx
    split
    · rename_i e
      have : x = k := by omega
      subst this
      have := h.neg x hx
      omega
    · exact h.neg x hx
theorem KI.all {n : Nat} : ∀ {l : List Int} {s : List Int × List Int}, KI n s → InR n l → KI n (l.foldl Go.Proofs.Ytliglejbkpjamaa.relax s)
  | [], s, h, _ => h
  | k :: l, s, h, hl => @KI.all n l (Go.Proofs.Ytliglejbkpjamaa.relax s k) (h.relax (hl k (List.mem_cons_self ..)).1 (hl k (List.mem_cons_self ..)).2) (fun x hx => hl x (List.mem_cons_of_mem _ hx))
theorem nodup_lenP : ∀ (n : Nat) (l : List Int), l.Nodup → InR n l → l.length ≤ n
  | 0, l, _, h => by
    cases l with
    | nil => simp
    | cons x l => have := h x (List.mem_cons_self ..); omega
  | n + 1, l, hn, h => by
    have h1 := nodup_lenP n (l.erase (n : Int)) (hn.erase _) (fun x hx => by
      have h2 := (List.Nodup.mem_erase_iff hn).1 hx
      have h3 := h x h2.2
      have h4 := h2.1
      omega)
    rw [List.length_erase] at h1
    split at h1 <;> omega
theorem KI.le {n : Nat} {s : List Int × List Int} (h : KI n s) : s.2.length ≤ n := nodup_lenP n s.2 h.nod h.inr
theorem freeRun_spec : ∀ (r : List (List Int)) (i : Nat) (free : List Int), free.Nodup → InR i free → (freeRun i free r).Nodup ∧ ∀ x, x ∈ freeRun i free r → x ∈ free ∨ ∃ j : Nat, x = ((i + j : Nat) : Int) ∧ r[j]? = some []
  | [], i, free, hn, _ => ⟨hn, fun x hx => .inl hx⟩
  | l :: r, i, free, hn, hr => by
    unfold freeRun
    by_cases hl : l = []
    · rw [if_pos hl]
      subst hl
      obtain ⟨h1, h2⟩ := freeRun_spec r (i + 1) (free ++ [(i : Int)]) (List.nodup_append.2 ⟨hn, by simp, fun a ha b hb => by rw [List.mem_singleton.1 hb]; have := hr a ha; omega⟩)
        (fun x hx => (List.mem_append.1 hx).elim (fun hx => by have := hr x hx; omega) (fun hx => by rw [List.mem_singleton.1 hx]; omega))
      refine ⟨h1, fun x hx => ?_⟩
      rcases h2 x hx with h | ⟨j, e, h⟩
      · rcases List.mem_append.1 h with h | h
        · exact .inl h
        · exact .inr ⟨0, by rw [List.mem_singleton.1 h]; simp, rfl⟩
      · exact .inr ⟨j + 1, by rw [e]; omega, by simpa using h⟩
    · rw [if_neg hl]
      obtain ⟨h1, h2⟩ := freeRun_spec r (i + 1) free hn (hr.mono (by omega))
      refine ⟨h1, fun x hx => ?_⟩
      rcases h2 x hx with h | ⟨j, e, h⟩
      · exact .inl h
      · exact .inr ⟨j + 1, by rw [e]; omega, by simpa using h⟩
theorem KI.start (ls : List (List Int)) : KI ls.length (ls.map (fun l => (l.length : Int)), freeRun 0 [] ls) := by
  obtain ⟨h1, h2⟩ := freeRun_spec ls 0 [] (by simp) (fun x hx => by cases hx)
  have h3 : ∀ x, x ∈ freeRun 0 [] ls → ∃ j : Nat, x = (j : Int) ∧ ls[j]? = some [] := fun x hx => by
    rcases h2 x hx with h | ⟨j, e, h⟩
    · cases h
    · exact ⟨j, by rw [e]; simp, h⟩
  refine ⟨by simp, h1, fun x hx => ?_, fun x hx => ?_⟩
  · obtain ⟨j, rfl, h⟩ := h3 x hx
    have := (List.getElem?_eq_some_iff.1 h).1
    omega
  · obtain ⟨j, rfl, h⟩ := h3 x hx
    simp [h]
end Go.Proofs.Ytliglejbkpjamaa
end
section
namespace Go.Proofs.Ytliglejbkpjamaa

theorem getD_set_l {l : List (List Int)} {i j : Nat} {x : List Int} (h : i < l.length) : (l.set i x).getD j [] = if i = j then x else l.getD j [] := by
  rw [List.getD_eq_getElem?_getD, List.getElem?_set]
  by_cases hij : i = j
  · subst hij; simp [h]
  · simp [hij]
theorem push_count {i k x : Int} {l : List (List Int)} {j : Nat} (h0 : 0 ≤ k) (hk : k.toNat < l.length) : ((push i l k).getD j []).count x = (l.getD j []).count x + if x = i ∧ (j : Int) = k then 1 else 0 := by
  unfold push
  rw [getD_set_l hk]
  by_cases hj : k.toNat = j
  · rw [if_pos hj, List.count_append, hj]
    have : (j : Int) = k := by omega
    by_cases hx : x = i
    · simp [hx, this]
    · rw [List.count_singleton]; simp [hx]; intro e; exact hx e.symm
  · rw [if_neg hj]
    have : ¬ (j : Int) = k := by omega
    simp [this]
theorem pushAll_count {n : Nat} {i x : Int} {j : Nat} : ∀ {a : List Int} {l : List (List Int)}, InR n a → l.length = n → ((pushAll i l a).getD j []).count x = (l.getD j []).count x + if x = i then a.count (j : Int) else 0
  | [], l, _, _ => by simp [pushAll]
  | k :: a, l, h, hl => by
    have hk := h k (List.mem_cons_self ..)
    have := pushAll_count (i := i) (x := x) (j := j) (a := a) (l := push i l k) (fun y hy => h y (List.mem_cons_of_mem _ hy)) (by rw [push_length]; exact hl)
    show ((pushAll i (push i l k) a).getD j []).count x = _
    rw [this, push_count hk.1 (by omega), List.count_cons]
    by_cases hx : x = i
    · by_cases hj : (j : Int) = k
      · simp [hx, hj]; omega
      · have hj' : ¬ k = (j : Int) := fun e => hj e.symm
        simp [hx, hj, hj']
    · simp [hx]
theorem usRun_count {n : Nat} {x : Int} {j : Nat} : ∀ {r : List (List Int)} {i : Nat} {us : List (List Int)}, AllR n r → us.length = n → ((usRun i us r).getD j []).count x = (us.getD j []).count x + if (i : Int) ≤ x then (r.getD (x - i).toNat []).count (j : Int) else 0
  | [], i, us, _, _ => by simp [usRun]
  | a :: r, i, us, h, hu => by
    have := usRun_count (x := x) (j := j) (r := r) (i := i + 1) (us := pushAll i us a) (fun y hy => h y (List.mem_cons_of_mem _ hy)) (by rw [pushAll_length]; exact hu)
    unfold usRun
    rw [this, pushAll_count (h a (List.mem_cons_self ..)) hu]
    rcases Int.lt_trichotomy x i with hx | hx | hx
    · rw [if_neg (by omega), if_neg (by omega), if_neg (by omega)]
    · subst hx
      rw [if_pos rfl, if_neg (by omega), if_pos (by omega)]
      simp
    · rw [if_neg (by omega), if_pos (by omega), if_pos (by omega)]
      have e : (x - (i : Int)).toNat = (x - ((i + 1 : Nat) : Int)).toNat + 1 := by omega
      rw [e]
      simp
/-- k needs j as often as j is needed by k. -/
theorem users_count {n : Nat} {ls : List (List Int)} (h : AllR n ls) (j : Nat) (x : Int) : ((usRun 0 (List.replicate n []) ls).getD j []).count x = if 0 ≤ x then (ls.getD x.toNat []).count (j : Int) else 0 := by
  rw [usRun_count h (by simp)]
  have : ((List.replicate n ([] : List Int)).getD j []) = [] := by
    rw [List.getD_eq_getElem?_getD, List.getElem?_replicate]; split <;> rfl
  rw [this]
  simp
theorem users_mem {n : Nat} {ls : List (List Int)} (h : AllR n ls) (j : Nat) (x : Int) : x ∈ (usRun 0 (List.replicate n []) ls).getD j [] ↔ 0 ≤ x ∧ (j : Int) ∈ ls.getD x.toNat [] := by
  rw [← List.count_pos_iff, users_count h]
  by_cases hx : 0 ≤ x
  · rw [if_pos hx, List.count_pos_iff]; simp [hx]
  · rw [if_neg hx]; simp [hx]

/-- How often k stands in the rows that D names. -/
def hits (next : List (List Int)) (k : Int) (D : List Int) : Nat := (D.map (fun j => (next.getD j.toNat []).count k)).sum
theorem hits_snoc (next : List (List Int)) (k : Int) (D : List Int) (x : Int) : hits next k (D ++ [x]) = hits next k D + (next.getD x.toNat []).count k := by simp [hits]
theorem countP_snoc {D : List Int} {x : Int} (hx : x ∉ D) : ∀ l : List Int, l.countP (fun y => decide (y ∈ D ++ [x])) = l.countP (fun y => decide (y ∈ D)) + l.count x
  | [] => rfl
  | y :: l => by
    rw [List.countP_cons, List.countP_cons, List.count_cons, countP_snoc hx l]
    by_cases h : y = x
    · subst h; simp [hx]; omega
    · by_cases h' : y ∈ D
      · simp [h, h']; omega
      · simp [h, h']
theorem hits_mem {n : Nat} {ls : List (List Int)} (h : AllR n ls) {k : Nat} : ∀ (m : Nat) (D : List Int), D.length = m → D.Nodup → InR n D → hits (usRun 0 (List.replicate n []) ls) k D = (ls.getD k []).countP (fun y => decide (y ∈ D))
  | 0, D, hm, _, _ => by
    rw [List.length_eq_zero_iff.1 hm]
    simp [hits]
  | m + 1, D, hm, hn, hr => by
    rcases List.eq_nil_or_concat D with rfl | ⟨D', x, rfl⟩
    · simp at hm
    · simp only [List.concat_eq_append] at *
      have hn' := List.nodup_append.1 hn
      have hxD : x ∉ D' := fun hx => hn'.2.2 x hx x (by simp) rfl
      have hx0 := hr x (by simp)
      rw [hits_snoc, hits_mem h m D' (by simpa using hm) hn'.1 (fun y hy => hr y (by simp [hy])), countP_snoc hxD, users_count h]
      have e : ((x.toNat : Nat) : Int) = x := by omega
      rw [if_pos (by omega), e]
      simp

theorem relax_get {n : Nat} {s : List Int × List Int} (hl : s.1.length = n) {k : Int} (h0 : 0 ≤ k) (h1 : k < (n : Int)) (j : Nat) : (relax s k).1.getD j 0 = s.1.getD j 0 - if (j : Int) = k then 1 else 0 := by
  unfold relax
  rw [getD_set (by omega)]
  by_cases hj : (j : Int) = k
  · rw [if_pos (by omega), if_pos hj]
    have : k.toNat = j := by omega
    rw [this]
  · rw [if_neg (by omega), if_neg hj]; omega
theorem relaxAll_get {n : Nat} (j : Nat) : ∀ {l : List Int} {s : List Int × List Int}, s.1.length = n → InR n l → (l.foldl relax s).1.getD j 0 = s.1.getD j 0 - (l.count (j : Int) : Int)
  | [], s, _, _ => by simp
  | k :: l, s, hs, hl => by
    have hk := hl k (List.mem_cons_self ..)
    rw [List.foldl_cons, relaxAll_get j (n := n) (by rw [relax, List.length_set]; exact hs) (fun y hy => hl y (List.mem_cons_of_mem _ hy)), relax_get hs hk.1 hk.2, List.count_cons]
    by_cases hj : (j : Int) = k
    · simp [hj]; omega
    · have hj' : ¬ k = (j : Int) := fun e => hj e.symm
      simp [hj, hj']
theorem relax_ext (s : List Int × List Int) (k : Int) : ∃ e, (relax s k).2 = s.2 ++ e := by
  unfold relax
  simp only
  split
  · exact ⟨_, rfl⟩
  · exact ⟨[], by simp⟩
theorem relaxAll_ext : ∀ (l : List Int) (s : List Int × List Int), ∃ e, (l.foldl relax s).2 = s.2 ++ e
  | [], s => ⟨[], by simp⟩
  | k :: l, s => by
    obtain ⟨e1, h1⟩ := relax_ext s k
    obtain ⟨e2, h2⟩ := relaxAll_ext l (relax s k)
    exact ⟨e1 ++ e2, by rw [List.foldl_cons, h2, h1, List.append_assoc]⟩
/-- What is not free is waited for. -/
def Wait (n : Nat) (s : List Int × List Int) : Prop := ∀ k : Nat, k < n → (k : Int) ∉ s.2 → 1 ≤ s.1.getD k 0
theorem Wait.relax {n : Nat} {s : List Int × List Int} (hl : s.1.length = n) (h : Wait n s) {k : Int} (h0 : 0 ≤ k) (h1 : k < (n : Int)) : Wait n (relax s k) := by
  intro j hj hnot
  rw [relax_get hl h0 h1]
  have hn2 : (j : Int) ∉ s.2 := fun hm => hnot (by obtain ⟨e, he⟩ := relax_ext s k; rw [he]; simp [hm])
  have h2 := h j hj hn2
  by_cases hjk : (j : Int) = k
  · rw [if_pos hjk]
    unfold Go.Proofs.Ytliglejbkpjamaa.relax at hnot
    have e : k.toNat = j := by omega
    rw [e] at hnot
    simp only at hnot
    by_cases hz : s.1.getD j 0 - 1 = 0
    · rw [if_pos hz] at hnot
      exact absurd (by simp [hjk]) hnot
    · omega
  · rw [if_neg hjk]; omega
theorem Wait.all {n : Nat} : ∀ {l : List Int} {s : List Int × List Int}, s.1.length = n → Wait n s → InR n l → Wait n (l.foldl Go.Proofs.Ytliglejbkpjamaa.relax s)
  | [], s, _, h, _ => h
  | k :: l, s, hl, h, hr => by
    have hk := hr k (List.mem_cons_self ..)
    exact Wait.all (l := l) (by unfold Go.Proofs.Ytliglejbkpjamaa.relax; rw [List.length_set]; exact hl) (h.relax hl hk.1 hk.2) (fun y hy => hr y (List.mem_cons_of_mem _ hy))

/-- What holds on Kahn's way when d are done. -/
structure KW (n : Nat) (ls : List (List Int)) (d : Nat) (s : List Int × List Int) : Prop where
  ki : KI n s
  le : d ≤ s.2.length
  eq : ∀ k : Nat, k < n → s.1.getD k 0 = ((ls.getD k []).length : Int) - (hits (usRun 0 (List.replicate n []) ls) k (s.2.take d) : Int)
  wait : Wait n s
  pre : ∀ p (h : p < d) (hp : p < s.2.length), ∀ j, j ∈ ls.getD (s.2[p].toNat) [] → j ∈ s.2.take p

theorem getD_mem_l {n : Nat} {ls : List (List Int)} (h : AllR n ls) (k : Nat) : InR n (ls.getD k []) := by
  by_cases hk : k < ls.length
  · rw [List.getD_eq_getElem?_getD, List.getElem?_eq_getElem hk]; exact h _ (List.getElem_mem hk)
  · rw [List.getD_eq_getElem?_getD, List.getElem?_eq_none (by omega)]; intro x hx; cases hx
theorem take_nodup {l : List Int} (h : l.Nodup) (d : Nat) : (l.take d).Nodup := h.sublist (List.take_sublist _ _)
/-- Those whose number is down to nought have all that they need among the done. -/
theorem KW.need {n : Nat} {ls : List (List Int)} (hA : AllR n ls) {d : Nat} {s : List Int × List Int} (h : KW n ls d s) {x : Int} (hx : x ∈ s.2) : ∀ j, j ∈ ls.getD x.toNat [] → j ∈ s.2.take d := by
  have hr := h.ki.inr x hx
  have h1 := h.ki.neg x hx
  rw [h.eq x.toNat (by omega), hits_mem hA _ _ rfl (take_nodup h.ki.nod d) (fun y hy => h.ki.inr y (List.mem_of_mem_take hy))] at h1
  have h2 : (ls.getD x.toNat []).countP (fun y => decide (y ∈ s.2.take d)) = (ls.getD x.toNat []).length := by
    have := List.countP_le_length (p := fun y => decide (y ∈ s.2.take d)) (l := ls.getD x.toNat [])
    omega
  intro j hj
  simpa using List.countP_eq_length.1 h2 j hj
theorem KW.step {n : Nat} {ls : List (List Int)} (hA : AllR n ls) (hll : ls.length ≤ n) {d : Nat} {s : List Int × List Int} (h : KW n ls d s) (hd : d < s.2.length) : KW n ls (d + 1) (((usRun 0 (List.replicate n []) ls).getD (s.2[d].toNat) []).foldl relax s) := by
  have hU : AllR n (usRun 0 (List.replicate n []) ls) := usRun_in ls (by omega) (fun l hl => by rw [List.mem_replicate] at hl; rw [hl.2]; intro x hx; cases hx)
  have hL := getD_mem_l hU (s.2[d].toNat)
  obtain ⟨e, he⟩ := relaxAll_ext ((usRun 0 (List.replicate n []) ls).getD (s.2[d].toNat) []) s
  have hlen : d + 1 ≤ (((usRun 0 (List.replicate n []) ls).getD (s.2[d].toNat) []).foldl relax s).2.length := by rw [he, List.length_append]; omega
  have htk : ∀ m, m ≤ s.2.length → (((usRun 0 (List.replicate n []) ls).getD (s.2[d].toNat) []).foldl relax s).2.take m = s.2.take m := fun m hm => by rw [he, List.take_append_of_le_length hm]
  refine ⟨h.ki.all hL, hlen, fun k hk => ?_, h.wait.all h.ki.len hL, fun p hp hpl j hj => ?_⟩
  · rw [relaxAll_get k h.ki.len hL, h.eq k hk, htk _ (by omega), List.take_succ_eq_append_getElem hd, hits_snoc]
    omega
  · have hpl2 : p < s.2.length := by omega
    have e1 : (((usRun 0 (List.replicate n []) ls).getD (s.2[d].toNat) []).foldl relax s).2[p] = s.2[p] := by
      simp only [he]
      rw [List.getElem_append_left hpl2]
    rw [e1] at hj
    rw [htk _ (by omega)]
    rcases Nat.lt_or_ge p d with hpd | hpd
    · exact h.pre p hpd hpl2 j hj
    · have : p = d := by omega
      subst this
      exact h.need hA (List.getElem_mem hpl2) j hj
theorem KW.start {n : Nat} {ls : List (List Int)} (hll : ls.length = n) : KW n ls 0 (ls.map (fun l => (l.length : Int)), freeRun 0 [] ls) := by
  have hk := KI.start ls
  rw [hll] at hk
  refine ⟨hk, Nat.zero_le _, fun k hk => ?_, fun k hk hnot => ?_, fun p hp => by omega⟩
  · have hk' : k < ls.length := by omega
    simp [hits, List.getD_eq_getElem?_getD, hk']
  · have hk' : k < ls.length := by omega
    have key : ∀ (r : List (List Int)) (i : Nat) (free : List Int), (∀ x, x ∈ free → x ∈ freeRun i free r) ∧ ∀ t (ht : t < r.length), r[t] = [] → ((i + t : Nat) : Int) ∈ freeRun i free r := by
      intro r
      induction r with
      | nil => intro i free; exact ⟨fun x hx => hx, fun t ht => by simp at ht⟩
      | cons l r ih =>
        intro i free
        unfold freeRun
        obtain ⟨i1, i2⟩ := ih (i + 1) (if l = [] then free ++ [(i : Int)] else free)
        refine ⟨fun x hx => i1 x (by split <;> simp [hx]), fun t ht he => ?_⟩
        cases t with
        | zero => exact i1 _ (by rw [if_pos (by simpa using he)]; simp)
        | succ t =>
          have := i2 t (by simpa using ht) (by simpa using he)
          rw [show i + (t + 1) = i + 1 + t from by omega]
          exact this
    have h3 : ls[k] ≠ [] := fun h => hnot (by have := (key ls 0 []).2 k hk' h; rw [Nat.zero_add] at this; exact this)
    have h4 : 0 < ls[k].length := List.length_pos_iff.2 h3
    simp [List.getD_eq_getElem?_getD, hk']
    omega
theorem kahn_end {n : Nat} {ls : List (List Int)} (hA : AllR n ls) (hll : ls.length ≤ n) : ∀ (f d : Nat) (s : List Int × List Int), KW n ls d s → f + d = n → ∃ s' d', kahnP (usRun 0 (List.replicate n []) ls) f d s = (d', s') ∧ KW n ls d' s' ∧ (d' = s'.2.length ∨ d' = n)
  | 0, d, s, h, e => ⟨s, d, rfl, h, .inr (by omega)⟩
  | f + 1, d, s, h, e => by
    unfold kahnP
    by_cases hd : d < s.2.length
    · rw [dif_pos hd]
      exact kahn_end hA hll f (d + 1) _ (h.step hA hll hd) (by omega)
    · rw [dif_neg hd]
      exact ⟨s, d, rfl, h, .inl (by have := h.le; omega)⟩
theorem nodup_all : ∀ (n : Nat) (l : List Int), l.Nodup → InR n l → l.length = n → ∀ k : Nat, k < n → (k : Int) ∈ l
  | 0, l, _, _, _, k, hk => by omega
  | n + 1, l, hn, h, hl, k, hk => by
    have hin : (n : Int) ∈ l := by
      refine Classical.byContradiction fun hnot => ?_
      have := nodup_lenP n l hn (fun x hx => ⟨(h x hx).1, by have := (h x hx).2; have : x ≠ (n : Int) := fun e => hnot (e ▸ hx); omega⟩)
      omega
    rcases Nat.lt_or_ge k n with hk' | hk'
    · have := nodup_all n (l.erase (n : Int)) (hn.erase _) (fun x hx => by
        have h2 := (List.Nodup.mem_erase_iff hn).1 hx
        have h3 := h x h2.2
        have h4 := h2.1
        omega) (by rw [List.length_erase_of_mem hin]; omega) k hk'
      exact List.mem_of_mem_erase this
    · have : k = n := by omega
      subst this; exact hin
/-- If all come to be done, of any some there is one that comes behind none of them. -/
theorem kahn_least {n : Nat} {ls : List (List Int)} (hA : AllR n ls) (hll : ls.length = n) (hK : ¬ (kahnOf n ls).1 < n) (C : Nat → Prop) (hC : ∃ k, k < n ∧ C k) : ∃ k, k < n ∧ C k ∧ ∀ j, j ∈ ls.getD k [] → ¬ C j.toNat := by
  obtain ⟨s, d, he, hW, _⟩ := kahn_end hA (by omega) n 0 _ (KW.start hll) (by omega)
  unfold kahnOf at hK
  rw [he] at hK
  have hlen := hW.ki.le
  have hle := hW.le
  have hd : d = n := by simp only at hK; omega
  have hall := nodup_all n s.2 hW.ki.nod hW.ki.inr (by omega)
  obtain ⟨k, hk, hCk⟩ := hC
  obtain ⟨p, hp, hpk⟩ := List.getElem_of_mem (hall k hk)
  have key : ∀ (m : Nat) (q : Nat) (hq : q < s.2.length), q < m → C (s.2[q].toNat) → ∃ k, k < n ∧ C k ∧ ∀ j, j ∈ ls.getD k [] → ¬ C j.toNat := by
    intro m
    induction m with
    | zero => intro q hq hm; omega
    | succ m ih =>
      intro q hq hm hc
      by_cases hex : ∃ q', ∃ h : q' < s.2.length, q' < q ∧ C (s.2[q'].toNat)
      · obtain ⟨q', h', hlt, hc'⟩ := hex
        exact ih q' h' (by omega) hc'
      · have hr := hW.ki.inr _ (List.getElem_mem hq)
        refine ⟨s.2[q].toNat, by omega, hc, fun j hj hCj => hex ?_⟩
        have := hW.pre q (by omega) hq j hj
        obtain ⟨q', hq', e⟩ := List.getElem_of_mem this
        rw [List.length_take] at hq'
        refine ⟨q', by omega, by omega, ?_⟩
        rw [List.getElem_take] at e
        rw [e]; exact hCj
  exact key (p + 1) p hp (by omega) (by rw [hpk]; simpa using hCk)
/-- If not all come to be done, there are some of which each comes behind one of them. -/
theorem kahn_stuck {n : Nat} {ls : List (List Int)} (hA : AllR n ls) (hll : ls.length = n) (hK : (kahnOf n ls).1 < n) : ∃ C : Nat → Prop, (∃ k, k < n ∧ C k) ∧ ∀ k, k < n → C k → ∃ j, j ∈ ls.getD k [] ∧ C j.toNat := by
  obtain ⟨s, d, he, hW, hend⟩ := kahn_end hA (by omega) n 0 _ (KW.start hll) (by omega)
  unfold kahnOf at hK
  rw [he] at hK
  simp only at hK
  have hd : d = s.2.length := hend.resolve_right (by omega)
  refine ⟨fun k => k < n ∧ (k : Int) ∉ s.2, ?_, fun k hk hC => ?_⟩
  · refine Classical.byContradiction fun hno => ?_
    have hin : ∀ k : Nat, k < n → (k : Int) ∈ s.2 := fun k hk => Classical.byContradiction fun h => hno ⟨k, hk, hk, h⟩
    have : ∀ (m : Nat) (l : List Int), (∀ k : Nat, k < m → (k : Int) ∈ l) → m ≤ l.length := by
      intro m
      induction m with
      | zero => intros; omega
      | succ m ih =>
        intro l hl
        have h1 := hl m (by omega)
        have := ih (l.erase (m : Int)) (fun k hk => (List.mem_erase_of_ne (by omega)).2 (hl k (by omega)))
        rw [List.length_erase_of_mem h1] at this
        have := List.length_pos_of_mem h1
        omega
    have := this n s.2 hin
    omega
  · have h1 := hW.wait k hk hC.2
    rw [hW.eq k hk, hd, List.take_length, hits_mem hA _ _ rfl hW.ki.nod hW.ki.inr] at h1
    refine Classical.byContradiction fun hno => ?_
    have : (ls.getD k []).countP (fun y => decide (y ∈ s.2)) = (ls.getD k []).length := by
      rw [List.countP_eq_length]
      intro j hj
      have hr := getD_mem_l hA k j hj
      refine decide_eq_true (Classical.byContradiction fun hjn => hno ⟨j, hj, by omega, ?_⟩)
      have e : ((j.toNat : Nat) : Int) = j := by omega
      rw [e]; exact hjn
    omega
end Go.Proofs.Ytliglejbkpjamaa
end
section
namespace Go.Proofs.Ytliglejbkpjamaa
open Go.RowKit

theorem infoI : ∃ i, Try.prog.info? 3 = some i ∧ i.zero = some (.int .i64 0) ∧ i.size = 1 ∧ i.bytes = 8 := by
  obtain ⟨i, e1, e2, e3, e4⟩ := info_parts (P := Try.prog) (e := 3) (z := .int .i64 0) (size := 1) (bytes := 8) (by kernel_rfl)
  exact ⟨i, e1, e2, e3, e4⟩

set_option maxHeartbeats 1000000 in
theorem grow_calls (n : Nat) (w : World) (hb : n ≤ 1000000) :
    Calls Try.prog 91 #[.slice none 0 0, .int .i64 n] w fun e w' => ∃ v, e = .returned v ∧ Mem none_ w [IRow v []] w' := by
  have HM0 := (Mem.start (fp := none_) w)
  have hd0 : decide ((n : Int) < 0) = false := decide_eq_false (by omega)
  rcases Nat.eq_zero_or_pos n with h0 | h0
  · subst h0
    go_enter Try.func91, Try.ntmps91
    go_wp2
    go_ret
    exact ⟨_, rfl, HM0.nilI⟩
  · obtain ⟨i, e1, e2, e3, e4⟩ := infoI
    have hr := Lib.run_append_nil_zeros (P := Try.prog) w 78 3 78 3 i _ .i64 .i64 Try.underlying78 Try.underlying3 e1 e2 n h0 (by omega) (by omega) (by rw [e4]; omega)
    have hge := grownCap_ge w n 0 3
    have hle := grownCap_le_maxLen w n 0 3 (by unfold maxLen; omega)
    generalize grownCap w n 0 3 = cp at *
    unfold maxLen at hle
    have hn0 : decide (0 < (n : Int)) = true := decide_eq_true (by omega)
    have hwr : IntKind.i64.wrap (n : Int) = n := IntWalk.i64_in _ (by omega)
    go_enter Try.func91, Try.ntmps91
    go_wp2_with (at_builtin; refine Lib.wpList_append_run _ rfl _ _ _ _ rfl _ _ rfl rfl _ _ hr ?_)
    go_ret
    refine ⟨_, rfl, HM0.drew.new ((Mut.refl _ _).alloc _) ?_ ?_⟩
    · refine ⟨rfl, .inr ⟨w.heap.size, cp, _, rfl, Nat.zero_le _, heap_alloc_new _ _, Nat.zero_le _, by unfold maxLen; omega, ?_, by simp [ints]⟩⟩
      rw [Array.size_append, size_zeroCells, size_zeroCells]
      simp [Value.cells]
      omega
    · intro b hb
      have hb' : some w.heap.size = some b := hb
      cases hb'
      exact Nat.le_refl _

theorem wpList_appIL {P : Program} {ops : Array Oper} {rest : List Oper} {o : Oper} {a : Act} {Q : Exit → Act → World → Prop} {t bytes : Nat} (HE : Elem P t 3 1 bytes) (hgd : o.guard = none) (s x : Operand) (ho : o.op = .call { callee := .builtin .append, args := #[s, x], argTypes := #[t, t] })
    {fp : Nat → Prop} {w0 W : World} {F : List Chunk} {v : Value} {l : List Int} (HM : Mem fp w0 (IRow v l :: F) W) (hs : a.eval s = v)
    {m : List Int} {xv : Value} (hxe : a.eval x = xv) (hx : Ints W xv m)
    (hb : (l.length + m.length) * bytes ≤ 140737488355328)
    (h : ∀ v' w', Mem fp w0 (IRow v' (l ++ m) :: F) w' → Mut (fun k => v.ownBlock = some k) W w' → wpList P ops Q rest (a.put o.dst v') w') :
    wpList P ops Q (o :: rest) a W := by
  refine wpList_appSl HE hgd s x ho HM hs hxe hx (ints_one _) hb (fun v' w' hm hmu => h v' w' ?_ hmu)
  unfold IRow
  rw [List.length_append, ints_append]
  exact hm

set_option maxHeartbeats 100000000 in
/-- slices.Concat(a, b) -/
theorem concat_calls (x y : Value) (a b : List Int) (g : Nat) (w : World) (hx : Ints w x a) (hy : Ints w y b) (h0 : w.cell? ⟨g, 0, none⟩ = some x) (h1 : w.cell? ⟨g, 1, none⟩ = some y) (ha : a.length ≤ 100000) (hb : b.length ≤ 100000) :
    Calls Try.prog 72 #[.slice (some ⟨g, 0, none⟩) 2 2] w fun e w' => ∃ v, e = .returned v ∧ Mem none_ w [IRow v (a ++ b)] w' := by
  obtain ⟨A, c, rfl, a1, a2, a3, a4⟩ := id hx
  obtain ⟨A', c', rfl, b1, b2, b3, b4⟩ := id hy
  unfold maxLen at a2 b2
  clear a3 a4 b3 b4
  have HM0 := (Mem.start (fp := none_) w)
  have hs1 : decide ((a.length : Int) < 0) = false := decide_eq_false (by omega)
  have hs2 : decide ((a.length : Int) + (b.length : Int) < 0) = false := decide_eq_false (by omega)
  have hw1 : IntKind.i64.wrap ((a.length : Int) + (b.length : Int)) = (a.length : Int) + (b.length : Int) := IntWalk.i64_in _ (by omega)
  go_enter Try.func72, Try.ntmps72
  go_wp2
  go_loopw [3, 11] (fun v3 v11 wr => ∃ k : Nat, k ≤ 2 ∧ v11 = .int .i64 k ∧ v3 = .int .i64 ((if k = 0 then 0 else if k = 1 then (a.length : Int) else (a.length : Int) + (b.length : Int))) ∧ wr = w) (fun _ i _ => 2 - (intOf i).toNat)
  case atStart => exact ⟨0, by omega, rfl, rfl, rfl⟩
  case round =>
    obtain ⟨k, hk, rfl, rfl, rfl⟩ := hrel
    match k, hk with
    | 0, _ =>
      go_wp2
      go_roundw
      case rel => exact ⟨1, by omega, by simp, by simp, by simp⟩
      case measure => simp [intOf]
    | 1, _ =>
      go_wp2
      go_roundw
      case rel => exact ⟨2, by omega, by simp, by simp, by simp⟩
      case measure => simp [intOf]
    | 2, _ =>
      go_wp2_with fail
      have hg := grow_calls (a.length + b.length) wr (by omega)
      rw [Int.natCast_add] at hg
      refine hg.mono ?_
      rintro e w1 ⟨v1, rfl, HM1⟩
      have h0' := h0
      have h1' := h1
      have hx' := hx
      have hy' := hy
      clear h0 h1 hx hy HM0 hg
      go_wp2
      go_loopw [6, 27] (fun v6 v27 w2 => ∃ k : Nat, k ≤ 2 ∧ v27 = .int .i64 k ∧ Mem none_ wr [IRow v6 (if k = 0 then [] else if k = 1 then a else a ++ b)] w2) (fun _ i _ => 2 - (intOf i).toNat)
      case atStart => exact ⟨0, by omega, rfl, HM1⟩
      case round =>
        clear HM1
        obtain ⟨k, hk, rfl, HM⟩ := hrel
        have h0 := HM.mu.cell h0' (fun h => h)
        have h1 := HM.mu.cell h1' (fun h => h)
        have hx := hx'.pure HM.mu
        have hy := hy'.pure HM.mu
        clear h0' h1' hx' hy'
        match k, hk with
        | 0, _ =>
          go_wp2_with (at_builtin; refine wpList_appIL intE rfl _ _ rfl HM rfl (m := a) (xv := .slice A a.length c) rfl hx (by simp; omega) ?_; intro v3 w3 HM3 HU3)
          go_roundw
          case rel => exact ⟨1, by omega, by simp, by simpa using HM3⟩
          case measure => simp [intOf]
        | 1, _ =>
          go_wp2_with (at_builtin; refine wpList_appIL intE rfl _ _ rfl HM rfl (m := b) (xv := .slice A' b.length c') rfl hy (by simp; omega) ?_; intro v3 w3 HM3 HU3)
          go_roundw
          case rel => exact ⟨2, by omega, by simp, by simpa using HM3⟩
          case measure => simp [intOf]
        | 2, _ =>
          go_wp2
          go_ret
          exact ⟨_, rfl, by simpa using HM⟩
end Go.Proofs.Ytliglejbkpjamaa
end
section
namespace Go.Proofs.Ytliglejbkpjamaa
open Go.RowKit

/-- Where the parts of a plan lie. -/
structure PV where
  vN : Value
  mb : Nat
  vE : Value
  vB : Value
  vU : Value
  vS : Value
  es : List Value
  bs : List Value
  us : List Value
def PV.cells (V : PV) (s : PS) : Array Value := ([V.vN, .map (some V.mb), V.vE, V.vB, V.vU, V.vS] ++ ints s.counts).toArray
/-- A plan at a block: what never turns behind its making, and what does. -/
def PlanF (V : PV) (s : PS) : List Chunk := [StrRow V.vN s.names, MapC V.mb Value.string (Value.int .i64) s.at_, Many (NestC V.vE V.es s.needs), Many (NestC V.vB V.bs s.behind), Many (NestC V.vU V.us s.users)]
def PlanC (b : Nat) (V : PV) (s : PS) : Chunk := Many ([Blk b 81 (V.cells s), IRow V.vS s.states] ++ PlanF V s)

def LenB (B : Nat) (ls : List (List Int)) : Prop := ∀ l, l ∈ ls → l.length ≤ B
theorem push_len {B : Nat} {ls : List (List Int)} (i k : Int) (h : LenB B ls) : LenB (B + 1) (push i ls k) := by
  intro x hx
  rcases List.mem_or_eq_of_mem_set hx with hx | rfl
  · exact Nat.le_succ_of_le (h x hx)
  · rw [List.length_append, List.length_singleton]
    refine Nat.succ_le_succ ?_
    by_cases hk : k.toNat < ls.length
    · rw [List.getD_eq_getElem?_getD, List.getElem?_eq_getElem hk]; exact h _ (List.getElem_mem hk)
    · rw [List.getD_eq_getElem?_getD, List.getElem?_eq_none (by omega)]; exact Nat.zero_le _
theorem pushAll_len (i : Int) : ∀ (a : List Int) {B : Nat} {ls : List (List Int)}, LenB B ls → LenB (B + a.length) (pushAll i ls a)
  | [], B, ls, h => h
  | k :: a, B, ls, h => by
    have := pushAll_len i a (push_len i k h)
    rw [List.length_cons, show B + (a.length + 1) = B + 1 + a.length from by omega]
    exact this
theorem usRun_len {M : Nat} : ∀ (r : List (List Int)) {i B : Nat} {us : List (List Int)}, LenB M r → LenB B us → LenB (B + M * r.length) (usRun i us r)
  | [], i, B, us, _, h => h
  | a :: r, i, B, us, hm, h => by
    have h1 := usRun_len r (i := i + 1) (fun l hl => hm l (List.mem_cons_of_mem _ hl)) (pushAll_len i a h)
    have h2 := hm a (List.mem_cons_self ..)
    intro l hl
    have h3 := h1 l hl
    rw [List.length_cons, Nat.mul_add]
    omega

/-- The parts of a plan, as they read. -/
structure PlanR (b : Nat) (V : PV) (s : PS) (w : World) : Prop where
  blk : (Blk b 81 (V.cells s)).ok w
  st : (IRow V.vS s.states).ok w
  nm : (StrRow V.vN s.names).ok w
  mp : (MapC V.mb Value.string (Value.int .i64) s.at_).ok w
  ne : Star (NestC V.vE V.es s.needs) w
  be : Star (NestC V.vB V.bs s.behind) w
  us : Star (NestC V.vU V.us s.users) w
theorem PlanC.reads {b : Nat} {V : PV} {s : PS} {w : World} (h : (PlanC b V s).ok w) : PlanR b V s w := by
  have h' : Star ([Blk b 81 (V.cells s), IRow V.vS s.states] ++ PlanF V s) w := h
  exact ⟨h'.1 _ (by simp), h'.1 _ (by simp), h'.1 _ (by simp [PlanF]), h'.1 _ (by simp [PlanF]), h'.1 (Many _) (by simp [PlanF]), h'.1 (Many _) (by simp [PlanF]), h'.1 (Many _) (by simp [PlanF])⟩
theorem Pure.chunk {w w' : World} (hp : Pure w w') {c : Chunk} (h : c.ok w) : c.ok w' := c.loc w w' (fun b hb => hp.block b (c.lt w b h hb) (fun h => h)) h
theorem Star.chunks {w w' : World} (hp : Pure w w') {cs : List Chunk} (h : Star cs w) : Star cs w' := ⟨fun c hc => Pure.chunk hp (h.1 c hc), h.2⟩
theorem PlanR.pure {b : Nat} {V : PV} {s : PS} {w w' : World} (hp : Pure w w') (h : PlanR b V s w) : PlanR b V s w' :=
  ⟨Pure.chunk hp h.blk, Pure.chunk hp h.st, Pure.chunk hp h.nm, Pure.chunk hp h.mp, Star.chunks hp h.ne, Star.chunks hp h.be, Star.chunks hp h.us⟩
section
variable {b : Nat} {V : PV} {s : PS} {w : World}
theorem PlanR.c0 (h : PlanR b V s w) : w.cell? ⟨b, 0, none⟩ = some V.vN := by rw [Blk.cell_ h.blk]; rfl
theorem PlanR.c1 (h : PlanR b V s w) : w.cell? ⟨b, 1, none⟩ = some (.map (some V.mb)) := by rw [Blk.cell_ h.blk]; rfl
theorem PlanR.c2 (h : PlanR b V s w) : w.cell? ⟨b, 2, none⟩ = some V.vE := by rw [Blk.cell_ h.blk]; rfl
theorem PlanR.c3 (h : PlanR b V s w) : w.cell? ⟨b, 3, none⟩ = some V.vB := by rw [Blk.cell_ h.blk]; rfl
theorem PlanR.c4 (h : PlanR b V s w) : w.cell? ⟨b, 4, none⟩ = some V.vU := by rw [Blk.cell_ h.blk]; rfl
theorem PlanR.c5 (h : PlanR b V s w) : w.cell? ⟨b, 5, none⟩ = some V.vS := by rw [Blk.cell_ h.blk]; rfl
theorem PlanR.cn (h : PlanR b V s w) {k : Nat} (hk : k < s.counts.length) : w.cell? ⟨b, 6 + k, none⟩ = some (.int .i64 s.counts[k]) := by
  rw [Blk.cell_ h.blk]
  have e : (V.cells s)[6 + k]? = (ints s.counts)[k]? := by
    unfold PV.cells
    rw [List.getElem?_toArray, List.getElem?_append_right (by simp)]
    simp
  rw [e, ints_get hk]
end

theorem made_cells (u : Value) (n : Nat) : madeCells #[u] n = (List.replicate n u).toArray := by
  apply Array.ext
  · simp [madeCells]
  · intro i h1 h2
    simp [madeCells, Nat.mod_one]
theorem madeI (n : Nat) (hn : n ≤ 1000000) (w : World) : (Instr.makeSlice 78 (.int .i64 (n : Int)) (.int .i64 (n : Int))).run Try.prog w = .ok (.slice (some ⟨w.heap.size, 0, none⟩) n n) (w.alloc (.cells (ints (List.replicate n 0)).toArray 3)) := by
  obtain ⟨i, e1, e2, e3, e4⟩ := infoI
  have hr := run_make (P := Try.prog) w 78 3 i _ Try.underlying78 e1 e2 .i64 .i64 n n (by omega) (by omega) (by rw [e4]; omega) (by omega)
  rw [hr, e3, Nat.mul_one, Int.toNat_natCast]
  have e : madeCells (Value.int .i64 0).cells n = (ints (List.replicate n 0)).toArray := by
    rw [show (Value.int .i64 0).cells = #[.int .i64 0] from rfl, made_cells]
    simp [ints]
  rw [e]
theorem infoL : ∃ i, Try.prog.info? 78 = some i ∧ i.zero = some (.slice none 0 0) ∧ i.size = 1 ∧ i.bytes = 24 := by
  obtain ⟨i, e1, e2, e3, e4⟩ := info_parts (P := Try.prog) (e := 78) (z := .slice none 0 0) (size := 1) (bytes := 24) (by kernel_rfl)
  exact ⟨i, e1, e2, e3, e4⟩
theorem madeL (n : Nat) (hn : n ≤ 1000000) (w : World) : (Instr.makeSlice 77 (.int .i64 (n : Int)) (.int .i64 (n : Int))).run Try.prog w = .ok (.slice (some ⟨w.heap.size, 0, none⟩) n n) (w.alloc (.cells (List.replicate n (.slice none 0 0)).toArray 78)) := by
  obtain ⟨i, e1, e2, e3, e4⟩ := infoL
  have hr := run_make (P := Try.prog) w 77 78 i _ Try.underlying77 e1 e2 .i64 .i64 n n (by omega) (by omega) (by rw [e4]; omega) (by omega)
  rw [hr, e3, Nat.mul_one, Int.toNat_natCast]
  rw [show (Value.slice none 0 0).cells = #[.slice none 0 0] from rfl, made_cells]
/-- A new row of numbers, all nought. -/
theorem Mem.zerosI {fp : Nat → Prop} {w0 W : World} {F : List Chunk} (h : Mem fp w0 F W) (n : Nat) (hn : n ≤ 1000000) :
    Mem fp w0 (IRow (.slice (some ⟨W.heap.size, 0, none⟩) n n) (List.replicate n 0) :: F) (W.alloc (.cells (ints (List.replicate n 0)).toArray 3)) := by
  have := h.lit 3 1 n (ints (List.replicate n 0)) (by rw [ints_length]; simp) (by unfold maxLen; omega)
  unfold IRow
  rw [List.length_replicate]
  exact this
theorem nil_rows (k : Nat) : List.zipWith IRow (List.replicate k (.slice none 0 0)) (List.replicate k []) = List.replicate k (IRow (.slice none 0 0) []) := by simp
theorem Mem.nils {fp : Nat → Prop} {w0 W : World} {F : List Chunk} (h : Mem fp w0 F W) : ∀ k : Nat, Mem fp w0 (List.replicate k (IRow (.slice none 0 0) []) ++ F) W
  | 0 => h
  | k + 1 => (Mem.nils h k).nilI
/-- A new row of rows, all nil. -/
theorem Mem.zerosL {fp : Nat → Prop} {w0 W : World} {F : List Chunk} (h : Mem fp w0 F W) (n : Nat) (hn : n ≤ 1000000) :
    Mem fp w0 (Row 78 1 (.slice (some ⟨W.heap.size, 0, none⟩) n n) n (List.replicate n (.slice none 0 0)) :: F ++ List.zipWith IRow (List.replicate n (.slice none 0 0)) (List.replicate n [])) (W.alloc (.cells (List.replicate n (.slice none 0 0)).toArray 78)) := by
  have h1 := h.lit 78 1 n (List.replicate n (.slice none 0 0)) (by simp) (by unfold maxLen; omega)
  rw [nil_rows]
  exact (h1.nils n).perm List.perm_append_comm
/-- The numbers have not gone far. -/
def Bd (T : Nat) (l : List Int) : Prop := ∀ x, x ∈ l → -(T : Int) ≤ x ∧ x ≤ 1000000
theorem Bd.at_ {T : Nat} {l : List Int} (h : Bd T l) (k : Nat) : -(T : Int) ≤ l.getD k 0 ∧ l.getD k 0 ≤ 1000000 := by
  by_cases hk : k < l.length
  · rw [List.getD_eq_getElem?_getD, List.getElem?_eq_getElem hk]; exact h _ (List.getElem_mem hk)
  · rw [List.getD_eq_getElem?_getD, List.getElem?_eq_none (by omega)]; exact ⟨by simp, by simp⟩
theorem Bd.relax {T : Nat} {s : List Int × List Int} (h : Bd T s.1) (k : Int) : Bd (T + 1) (Go.Proofs.Ytliglejbkpjamaa.relax s k).1 := by
  intro x hx
  have := h.at_ k.toNat
  rcases List.mem_or_eq_of_mem_set hx with hx | rfl
  · have := h x hx; omega
  · omega
theorem relax_len (s : List Int × List Int) (k : Int) : s.2.length ≤ (Go.Proofs.Ytliglejbkpjamaa.relax s k).2.length := by
  unfold Go.Proofs.Ytliglejbkpjamaa.relax
  simp only
  split
  · simp
  · exact Nat.le_refl _
end Go.Proofs.Ytliglejbkpjamaa
end
