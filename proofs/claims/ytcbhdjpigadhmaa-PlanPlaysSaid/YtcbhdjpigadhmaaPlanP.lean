/-
  Layer 19 (plan), without Go: what building a plan comes to.
-/
import Derived.Test.YtcbhdjpigadhmaaPlanA
set_option linter.unusedVariables false
set_option linter.unusedSimpArgs false
namespace Go.Proofs.Ytcbhdjpigadhmaa

/-- A node: what a plan asks of it. -/
structure Nd where
  name : ByteArray
  src : List ByteArray
  aft : List ByteArray

/-- A plan. -/
structure PS where
  names : List ByteArray
  at_ : List (ByteArray × Int)
  needs : List (List Int)
  behind : List (List Int)
  users : List (List Int)
  states : List Int
  counts : List Int

def atRun (m : List (ByteArray × Int)) (i : Nat) : List Nd → Option (List (ByteArray × Int))
  | [] => some m
  | x :: r => if mhas m x.name then none else atRun (mput m x.name (i : Int)) (i + 1) r
def edRun (m : List (ByteArray × Int)) (n : Nat) (i : Nat) (acc : List (List Int × List Int)) : List Nd → Option (List (List Int × List Int))
  | [] => some acc
  | x :: r => match placesOf m i x.src, placesOf m n x.aft with
    | some a, some b => edRun m n (i + 1) (acc ++ [(a, b)]) r
    | _, _ => none
/-- l[k] = append(l[k], i) -/
def push (i : Int) (l : List (List Int)) (k : Int) : List (List Int) := l.set k.toNat (l.getD k.toNat [] ++ [i])
/-- for _, k := range a { l[k] = append(l[k], i) } -/
def pushAll (i : Int) (l : List (List Int)) (a : List Int) : List (List Int) := a.foldl (push i) l
def usRun (i : Nat) (us : List (List Int)) : List (List Int) → List (List Int)
  | [] => us
  | a :: r => usRun (i + 1) (pushAll i us a) r
def relax (s : List Int × List Int) (k : Int) : List Int × List Int :=
  (s.1.set k.toNat (s.1.getD k.toNat 0 - 1), if s.1.getD k.toNat 0 - 1 = 0 then s.2 ++ [k] else s.2)
def kahn (next : List (List Int)) : Nat → Nat → List Int × List Int → Nat × (List Int × List Int)
  | 0, d, s => (d, s)
  | f + 1, d, s => if h : d < s.2.length then kahn next f (d + 1) ((next.getD (s.2[d].toNat) []).foldl relax s) else (d, s)
/-- Those that come behind none. -/
def freeRun (i : Nat) (free : List Int) : List (List Int) → List Int
  | [] => free
  | l :: r => freeRun (i + 1) (if l = [] then free ++ [(i : Int)] else free) r
def befores (s : PS) : List (List Int) := List.zipWith (· ++ ·) s.needs s.behind
def kahnOf (n : Nat) (ls : List (List Int)) : Nat × (List Int × List Int) :=
  kahn (usRun 0 (List.replicate n []) ls) n 0 (ls.map (fun l => (l.length : Int)), freeRun 0 [] ls)
def loopsOf (s : PS) : Bool := decide ((kahnOf s.names.length (befores s)).1 < s.names.length)
def planOf (g : List Nd) (m : List (ByteArray × Int)) (es : List (List Int × List Int)) : PS :=
  { names := g.map (·.name), at_ := m, needs := es.map (·.1), behind := es.map (·.2), users := usRun 0 (List.replicate g.length []) (es.map (·.1)), states := List.replicate g.length 0, counts := [(g.length : Int), 0, 0, 0, 0] }
def buildOf (g : List Nd) : Option PS :=
  if 512 < g.length then none else
  match atRun [] 0 g with
  | none => none
  | some m => match edRun m g.length 0 [] g with
    | none => none
    | some es => if loopsOf (planOf g m es) then none else some (planOf g m es)

def InR (n : Nat) (l : List Int) : Prop := ∀ x, x ∈ l → 0 ≤ x ∧ x < (n : Int)
theorem InR.mono {n n' : Nat} {l : List Int} (h : InR n l) (hn : n ≤ n') : InR n' l := fun x hx => ⟨(h x hx).1, by have := (h x hx).2; omega⟩
theorem push_length (i : Int) (l : List (List Int)) (k : Int) : (push i l k).length = l.length := by simp [push]
theorem pushAll_length (i : Int) : ∀ (a : List Int) (l : List (List Int)), (pushAll i l a).length = l.length
  | [], l => rfl
  | k :: a, l => by
    have := pushAll_length i a (push i l k)
    rw [push_length] at this
    exact this
theorem usRun_length : ∀ (r : List (List Int)) (i : Nat) (us : List (List Int)), (usRun i us r).length = us.length
  | [], i, us => rfl
  | a :: r, i, us => by unfold usRun; rw [usRun_length r, pushAll_length]
/-- All in it is within reach. -/
def AllR (n : Nat) (ls : List (List Int)) : Prop := ∀ l, l ∈ ls → InR n l
theorem push_in {n : Nat} {i : Nat} (hi : i < n) {l : List (List Int)} (h : AllR n l) (k : Int) : AllR n (push i l k) := by
  intro x hx
  rcases List.mem_or_eq_of_mem_set hx with hx | rfl
  · exact h x hx
  · intro y hy
    rcases List.mem_append.1 hy with hy | hy
    · by_cases hk : k.toNat < l.length
      · have : l.getD k.toNat [] ∈ l := by rw [List.getD_eq_getElem?_getD, List.getElem?_eq_getElem hk]; exact List.getElem_mem hk
        exact h _ this y hy
      · rw [List.getD_eq_getElem?_getD, List.getElem?_eq_none (by omega)] at hy
        cases hy
    · rw [List.mem_singleton.1 hy]; omega
theorem pushAll_in {n : Nat} {i : Nat} (hi : i < n) : ∀ (a : List Int) {l : List (List Int)}, AllR n l → AllR n (pushAll i l a)
  | [], l, h => h
  | k :: a, l, h => pushAll_in hi a (push_in hi h k)
theorem usRun_in {n : Nat} : ∀ (r : List (List Int)) {i : Nat} {us : List (List Int)}, i + r.length ≤ n → AllR n us → AllR n (usRun i us r)
  | [], i, us, _, h => h
  | a :: r, i, us, hi, h => by
    simp only [List.length_cons] at hi
    exact usRun_in r (by omega) (pushAll_in (by omega) a h)

/-- All places of a map are within reach. -/
def MapR (n : Nat) (m : List (ByteArray × Int)) : Prop := ∀ k v, mget m k = some v → 0 ≤ v ∧ v < (n : Int)
theorem atRun_in : ∀ (r : List Nd) {i : Nat} {m m' : List (ByteArray × Int)}, MapR i m → atRun m i r = some m' → MapR (i + r.length) m'
  | [], i, m, m', h, e => by cases e; exact h
  | x :: r, i, m, m', h, e => by
    unfold atRun at e
    split at e
    · cases e
    · have := atRun_in r (i := i + 1) (fun k v hk => by
        rw [mget_put] at hk
        split at hk
        · cases hk; omega
        · have := h k v hk; omega) e
      rw [show i + (x :: r).length = i + 1 + r.length from by simp; omega]
      exact this
theorem placesOf_in {n : Nat} {m : List (ByteArray × Int)} {ahead : Int} (hm : MapR n m) : ∀ {l : List ByteArray} {a : List Int}, placesOf m ahead l = some a → InR n a ∧ ∀ x, x ∈ a → x < ahead
  | [], a, h => by cases h; exact ⟨fun x hx => (by cases hx), fun x hx => (by cases hx)⟩
  | s :: l, a, h => by
    simp only [placesOf] at h
    cases hs : mget m s with
    | none => rw [hs] at h; cases h
    | some i =>
      rw [hs] at h
      simp only at h
      split at h
      · cases h
      · rename_i hi
        obtain ⟨a', h1, rfl⟩ := Option.map_eq_some_iff.1 h
        obtain ⟨h2, h3⟩ := placesOf_in hm h1
        refine ⟨fun x hx => ?_, fun x hx => ?_⟩
        · rcases List.mem_cons.1 hx with rfl | hx
          · exact hm _ _ hs
          · exact h2 x hx
        · rcases List.mem_cons.1 hx with rfl | hx
          · omega
          · exact h3 x hx

/-- What holds all along Kahn's way. -/
structure KI (n : Nat) (s : List Int × List Int) : Prop where
  len : s.1.length = n
  nod : s.2.Nodup
  inr : InR n s.2
  neg : ∀ k, k ∈ s.2 → s.1.getD k.toNat 0 ≤ 0
theorem getD_set {l : List Int} {i j : Nat} {x : Int} (h : i < l.length) : (l.set i x).getD j 0 = if i = j then x else l.getD j 0 := by
  rw [List.getD_eq_getElem?_getD, List.getElem?_set]
  by_cases hij : i = j
  · subst hij; simp [h]
  · simp [hij]
theorem KI.relax {n : Nat} {s : List Int × List Int} (h : KI n s) {k : Int} (h0 : 0 ≤ k) (h1 : k < (n : Int)) : KI n (relax s k) := by
  have hk : k.toNat < s.1.length := by rw [h.len]; omega
  unfold Go.Proofs.Ytcbhdjpigadhmaa.relax
  by_cases hz : s.1.getD k.toNat 0 - 1 = 0
  · rw [if_pos hz]
    have hnot : k ∉ s.2 := fun hm => by have := h.neg k hm; omega
    refine ⟨by rw [List.length_set]; exact h.len, List.nodup_append.2 ⟨h.nod, by simp, fun a ha b hb => ?_⟩, fun x hx => ?_, fun x hx => ?_⟩
    · rw [List.mem_singleton.1 hb]; rintro rfl; exact hnot ha
    · rcases List.mem_append.1 hx with hx | hx
      · exact h.inr x hx
      · rw [List.mem_singleton.1 hx]; exact ⟨h0, h1⟩
    · show (s.1.set _ _).getD _ _ ≤ 0
      rw [getD_set hk]
      split
      · omega
      · rename_i hne
        rcases List.mem_append.1 hx with hx | hx
        · exact h.neg x hx
        · exact absurd (congrArg Int.toNat (List.mem_singleton.1 hx).symm) hne
  · rw [if_neg hz]
    refine ⟨by rw [List.length_set]; exact h.len, h.nod, h.inr, fun x hx => ?_⟩
    show (s.1.set _ _).getD _ _ ≤ 0
    rw [getD_set hk]
    have hx' := h.inr x hx
    split
    · rename_i e
      have : x = k := by omega
      subst this
      have := h.neg x hx
      omega
    · exact h.neg x hx
theorem KI.all {n : Nat} : ∀ {l : List Int} {s : List Int × List Int}, KI n s → InR n l → KI n (l.foldl Go.Proofs.Ytcbhdjpigadhmaa.relax s)
  | [], s, h, _ => h
  | k :: l, s, h, hl => @KI.all n l (Go.Proofs.Ytcbhdjpigadhmaa.relax s k) (h.relax (hl k (List.mem_cons_self ..)).1 (hl k (List.mem_cons_self ..)).2) (fun x hx => hl x (List.mem_cons_of_mem _ hx))
theorem nodup_len : ∀ (n : Nat) (l : List Int), l.Nodup → InR n l → l.length ≤ n
  | 0, l, _, h => by
    cases l with
    | nil => simp
    | cons x l => have := h x (List.mem_cons_self ..); omega
  | n + 1, l, hn, h => by
    have h1 := nodup_len n (l.erase (n : Int)) (hn.erase _) (fun x hx => by
      have h2 := (List.Nodup.mem_erase_iff hn).1 hx
      have h3 := h x h2.2
      have h4 := h2.1
      omega)
    rw [List.length_erase] at h1
    split at h1 <;> omega
theorem KI.le {n : Nat} {s : List Int × List Int} (h : KI n s) : s.2.length ≤ n := nodup_len n s.2 h.nod h.inr
theorem freeRun_spec : ∀ (r : List (List Int)) (i : Nat) (free : List Int), free.Nodup → InR i free → (freeRun i free r).Nodup ∧ ∀ x, x ∈ freeRun i free r → x ∈ free ∨ ∃ j : Nat, x = ((i + j : Nat) : Int) ∧ r[j]? = some []
  | [], i, free, hn, _ => ⟨hn, fun x hx => .inl hx⟩
  | l :: r, i, free, hn, hr => by
    unfold freeRun
    by_cases hl : l = []
    · rw [if_pos hl]
      subst hl
      obtain ⟨h1, h2⟩ := freeRun_spec r (i + 1) (free ++ [(i : Int)]) (List.nodup_append.2 ⟨hn, by simp, fun a ha b hb => by rw [List.mem_singleton.1 hb]; have := hr a ha; omega⟩)
        (fun x hx => (List.mem_append.1 hx).elim (fun hx => by have := hr x hx; omega) (fun hx => by rw [List.mem_singleton.1 hx]; omega))
      refine ⟨h1, fun x hx => ?_⟩
      rcases h2 x hx with h | ⟨j, e, h⟩
      · rcases List.mem_append.1 h with h | h
        · exact .inl h
        · exact .inr ⟨0, by rw [List.mem_singleton.1 h]; simp, rfl⟩
      · exact .inr ⟨j + 1, by rw [e]; omega, by simpa using h⟩
    · rw [if_neg hl]
      obtain ⟨h1, h2⟩ := freeRun_spec r (i + 1) free hn (hr.mono (by omega))
      refine ⟨h1, fun x hx => ?_⟩
      rcases h2 x hx with h | ⟨j, e, h⟩
      · exact .inl h
      · exact .inr ⟨j + 1, by rw [e]; omega, by simpa using h⟩
theorem KI.start (ls : List (List Int)) : KI ls.length (ls.map (fun l => (l.length : Int)), freeRun 0 [] ls) := by
  obtain ⟨h1, h2⟩ := freeRun_spec ls 0 [] (by simp) (fun x hx => by cases hx)
  have h3 : ∀ x, x ∈ freeRun 0 [] ls → ∃ j : Nat, x = (j : Int) ∧ ls[j]? = some [] := fun x hx => by
    rcases h2 x hx with h | ⟨j, e, h⟩
    · cases h
    · exact ⟨j, by rw [e]; simp, h⟩
  refine ⟨by simp, h1, fun x hx => ?_, fun x hx => ?_⟩
  · obtain ⟨j, rfl, h⟩ := h3 x hx
    have := (List.getElem?_eq_some_iff.1 h).1
    omega
  · obtain ⟨j, rfl, h⟩ := h3 x hx
    simp [h]
end Go.Proofs.Ytcbhdjpigadhmaa
