/-
  Layer 19 (plan), without Go: Kahn's way ends with all just if nothing comes behind itself.
-/
import Derived.Test.YtcbhdjpigadhmaaPlanP
set_option linter.unusedVariables false
set_option linter.unusedSimpArgs false
namespace Go.Proofs.Ytcbhdjpigadhmaa

theorem getD_set_l {l : List (List Int)} {i j : Nat} {x : List Int} (h : i < l.length) : (l.set i x).getD j [] = if i = j then x else l.getD j [] := by
  rw [List.getD_eq_getElem?_getD, List.getElem?_set]
  by_cases hij : i = j
  · subst hij; simp [h]
  · simp [hij]
theorem push_count {i k x : Int} {l : List (List Int)} {j : Nat} (h0 : 0 ≤ k) (hk : k.toNat < l.length) : ((push i l k).getD j []).count x = (l.getD j []).count x + if x = i ∧ (j : Int) = k then 1 else 0 := by
  unfold push
  rw [getD_set_l hk]
  by_cases hj : k.toNat = j
  · rw [if_pos hj, List.count_append, hj]
    have : (j : Int) = k := by omega
    by_cases hx : x = i
    · simp [hx, this]
    · rw [List.count_singleton]; simp [hx]; intro e; exact hx e.symm
  · rw [if_neg hj]
    have : ¬ (j : Int) = k := by omega
    simp [this]
theorem pushAll_count {n : Nat} {i x : Int} {j : Nat} : ∀ {a : List Int} {l : List (List Int)}, InR n a → l.length = n → ((pushAll i l a).getD j []).count x = (l.getD j []).count x + if x = i then a.count (j : Int) else 0
  | [], l, _, _ => by simp [pushAll]
  | k :: a, l, h, hl => by
    have hk := h k (List.mem_cons_self ..)
    have := pushAll_count (i := i) (x := x) (j := j) (a := a) (l := push i l k) (fun y hy => h y (List.mem_cons_of_mem _ hy)) (by rw [push_length]; exact hl)
    show ((pushAll i (push i l k) a).getD j []).count x = _
    rw [this, push_count hk.1 (by omega), List.count_cons]
    by_cases hx : x = i
    · by_cases hj : (j : Int) = k
      · simp [hx, hj]; omega
      · have hj' : ¬ k = (j : Int) := fun e => hj e.symm
        simp [hx, hj, hj']
    · simp [hx]
theorem usRun_count {n : Nat} {x : Int} {j : Nat} : ∀ {r : List (List Int)} {i : Nat} {us : List (List Int)}, AllR n r → us.length = n → ((usRun i us r).getD j []).count x = (us.getD j []).count x + if (i : Int) ≤ x then (r.getD (x - i).toNat []).count (j : Int) else 0
  | [], i, us, _, _ => by simp [usRun]
  | a :: r, i, us, h, hu => by
    have := usRun_count (x := x) (j := j) (r := r) (i := i + 1) (us := pushAll i us a) (fun y hy => h y (List.mem_cons_of_mem _ hy)) (by rw [pushAll_length]; exact hu)
    unfold usRun
    rw [this, pushAll_count (h a (List.mem_cons_self ..)) hu]
    rcases Int.lt_trichotomy x i with hx | hx | hx
    · rw [if_neg (by omega), if_neg (by omega), if_neg (by omega)]
    · subst hx
      rw [if_pos rfl, if_neg (by omega), if_pos (by omega)]
      simp
    · rw [if_neg (by omega), if_pos (by omega), if_pos (by omega)]
      have e : (x - (i : Int)).toNat = (x - ((i + 1 : Nat) : Int)).toNat + 1 := by omega
      rw [e]
      simp
/-- k needs j as often as j is needed by k. -/
theorem users_count {n : Nat} {ls : List (List Int)} (h : AllR n ls) (j : Nat) (x : Int) : ((usRun 0 (List.replicate n []) ls).getD j []).count x = if 0 ≤ x then (ls.getD x.toNat []).count (j : Int) else 0 := by
  rw [usRun_count h (by simp)]
  have : ((List.replicate n ([] : List Int)).getD j []) = [] := by
    rw [List.getD_eq_getElem?_getD, List.getElem?_replicate]; split <;> rfl
  rw [this]
  simp
theorem users_mem {n : Nat} {ls : List (List Int)} (h : AllR n ls) (j : Nat) (x : Int) : x ∈ (usRun 0 (List.replicate n []) ls).getD j [] ↔ 0 ≤ x ∧ (j : Int) ∈ ls.getD x.toNat [] := by
  rw [← List.count_pos_iff, users_count h]
  by_cases hx : 0 ≤ x
  · rw [if_pos hx, List.count_pos_iff]; simp [hx]
  · rw [if_neg hx]; simp [hx]

/-- How often k stands in the rows that D names. -/
def hits (next : List (List Int)) (k : Int) (D : List Int) : Nat := (D.map (fun j => (next.getD j.toNat []).count k)).sum
theorem hits_snoc (next : List (List Int)) (k : Int) (D : List Int) (x : Int) : hits next k (D ++ [x]) = hits next k D + (next.getD x.toNat []).count k := by simp [hits]
theorem countP_snoc {D : List Int} {x : Int} (hx : x ∉ D) : ∀ l : List Int, l.countP (fun y => decide (y ∈ D ++ [x])) = l.countP (fun y => decide (y ∈ D)) + l.count x
  | [] => rfl
  | y :: l => by
    rw [List.countP_cons, List.countP_cons, List.count_cons, countP_snoc hx l]
    by_cases h : y = x
    · subst h; simp [hx]; omega
    · by_cases h' : y ∈ D
      · simp [h, h']; omega
      · simp [h, h']
theorem hits_mem {n : Nat} {ls : List (List Int)} (h : AllR n ls) {k : Nat} : ∀ (m : Nat) (D : List Int), D.length = m → D.Nodup → InR n D → hits (usRun 0 (List.replicate n []) ls) k D = (ls.getD k []).countP (fun y => decide (y ∈ D))
  | 0, D, hm, _, _ => by
    rw [List.length_eq_zero_iff.1 hm]
    simp [hits]
  | m + 1, D, hm, hn, hr => by
    rcases List.eq_nil_or_concat D with rfl | ⟨D', x, rfl⟩
    · simp at hm
    · simp only [List.concat_eq_append] at *
      have hn' := List.nodup_append.1 hn
      have hxD : x ∉ D' := fun hx => hn'.2.2 x hx x (by simp) rfl
      have hx0 := hr x (by simp)
      rw [hits_snoc, hits_mem h m D' (by simpa using hm) hn'.1 (fun y hy => hr y (by simp [hy])), countP_snoc hxD, users_count h]
      have e : ((x.toNat : Nat) : Int) = x := by omega
      rw [if_pos (by omega), e]
      simp

theorem relax_get {n : Nat} {s : List Int × List Int} (hl : s.1.length = n) {k : Int} (h0 : 0 ≤ k) (h1 : k < (n : Int)) (j : Nat) : (relax s k).1.getD j 0 = s.1.getD j 0 - if (j : Int) = k then 1 else 0 := by
  unfold relax
  rw [getD_set (by omega)]
  by_cases hj : (j : Int) = k
  · rw [if_pos (by omega), if_pos hj]
    have : k.toNat = j := by omega
    rw [this]
  · rw [if_neg (by omega), if_neg hj]; omega
theorem relaxAll_get {n : Nat} (j : Nat) : ∀ {l : List Int} {s : List Int × List Int}, s.1.length = n → InR n l → (l.foldl relax s).1.getD j 0 = s.1.getD j 0 - (l.count (j : Int) : Int)
  | [], s, _, _ => by simp
  | k :: l, s, hs, hl => by
    have hk := hl k (List.mem_cons_self ..)
    rw [List.foldl_cons, relaxAll_get j (n := n) (by rw [relax, List.length_set]; exact hs) (fun y hy => hl y (List.mem_cons_of_mem _ hy)), relax_get hs hk.1 hk.2, List.count_cons]
    by_cases hj : (j : Int) = k
    · simp [hj]; omega
    · have hj' : ¬ k = (j : Int) := fun e => hj e.symm
      simp [hj, hj']
theorem relax_ext (s : List Int × List Int) (k : Int) : ∃ e, (relax s k).2 = s.2 ++ e := by
  unfold relax
  simp only
  split
  · exact ⟨_, rfl⟩
  · exact ⟨[], by simp⟩
theorem relaxAll_ext : ∀ (l : List Int) (s : List Int × List Int), ∃ e, (l.foldl relax s).2 = s.2 ++ e
  | [], s => ⟨[], by simp⟩
  | k :: l, s => by
    obtain ⟨e1, h1⟩ := relax_ext s k
    obtain ⟨e2, h2⟩ := relaxAll_ext l (relax s k)
    exact ⟨e1 ++ e2, by rw [List.foldl_cons, h2, h1, List.append_assoc]⟩
/-- What is not free is waited for. -/
def Wait (n : Nat) (s : List Int × List Int) : Prop := ∀ k : Nat, k < n → (k : Int) ∉ s.2 → 1 ≤ s.1.getD k 0
theorem Wait.relax {n : Nat} {s : List Int × List Int} (hl : s.1.length = n) (h : Wait n s) {k : Int} (h0 : 0 ≤ k) (h1 : k < (n : Int)) : Wait n (relax s k) := by
  intro j hj hnot
  rw [relax_get hl h0 h1]
  have hn2 : (j : Int) ∉ s.2 := fun hm => hnot (by obtain ⟨e, he⟩ := relax_ext s k; rw [he]; simp [hm])
  have h2 := h j hj hn2
  by_cases hjk : (j : Int) = k
  · rw [if_pos hjk]
    unfold Go.Proofs.Ytcbhdjpigadhmaa.relax at hnot
    have e : k.toNat = j := by omega
    rw [e] at hnot
    simp only at hnot
    by_cases hz : s.1.getD j 0 - 1 = 0
    · rw [if_pos hz] at hnot
      exact absurd (by simp [hjk]) hnot
    · omega
  · rw [if_neg hjk]; omega
theorem Wait.all {n : Nat} : ∀ {l : List Int} {s : List Int × List Int}, s.1.length = n → Wait n s → InR n l → Wait n (l.foldl Go.Proofs.Ytcbhdjpigadhmaa.relax s)
  | [], s, _, h, _ => h
  | k :: l, s, hl, h, hr => by
    have hk := hr k (List.mem_cons_self ..)
    exact Wait.all (l := l) (by unfold Go.Proofs.Ytcbhdjpigadhmaa.relax; rw [List.length_set]; exact hl) (h.relax hl hk.1 hk.2) (fun y hy => hr y (List.mem_cons_of_mem _ hy))

/-- What holds on Kahn's way when d are done. -/
structure KW (n : Nat) (ls : List (List Int)) (d : Nat) (s : List Int × List Int) : Prop where
  ki : KI n s
  le : d ≤ s.2.length
  eq : ∀ k : Nat, k < n → s.1.getD k 0 = ((ls.getD k []).length : Int) - (hits (usRun 0 (List.replicate n []) ls) k (s.2.take d) : Int)
  wait : Wait n s
  pre : ∀ p (h : p < d) (hp : p < s.2.length), ∀ j, j ∈ ls.getD (s.2[p].toNat) [] → j ∈ s.2.take p

theorem getD_mem_l {n : Nat} {ls : List (List Int)} (h : AllR n ls) (k : Nat) : InR n (ls.getD k []) := by
  by_cases hk : k < ls.length
  · rw [List.getD_eq_getElem?_getD, List.getElem?_eq_getElem hk]; exact h _ (List.getElem_mem hk)
  · rw [List.getD_eq_getElem?_getD, List.getElem?_eq_none (by omega)]; intro x hx; cases hx
theorem take_nodup {l : List Int} (h : l.Nodup) (d : Nat) : (l.take d).Nodup := h.sublist (List.take_sublist _ _)
/-- Those whose number is down to nought have all that they need among the done. -/
theorem KW.need {n : Nat} {ls : List (List Int)} (hA : AllR n ls) {d : Nat} {s : List Int × List Int} (h : KW n ls d s) {x : Int} (hx : x ∈ s.2) : ∀ j, j ∈ ls.getD x.toNat [] → j ∈ s.2.take d := by
  have hr := h.ki.inr x hx
  have h1 := h.ki.neg x hx
  rw [h.eq x.toNat (by omega), hits_mem hA _ _ rfl (take_nodup h.ki.nod d) (fun y hy => h.ki.inr y (List.mem_of_mem_take hy))] at h1
  have h2 : (ls.getD x.toNat []).countP (fun y => decide (y ∈ s.2.take d)) = (ls.getD x.toNat []).length := by
    have := List.countP_le_length (p := fun y => decide (y ∈ s.2.take d)) (l := ls.getD x.toNat [])
    omega
  intro j hj
  simpa using List.countP_eq_length.1 h2 j hj
theorem KW.step {n : Nat} {ls : List (List Int)} (hA : AllR n ls) (hll : ls.length ≤ n) {d : Nat} {s : List Int × List Int} (h : KW n ls d s) (hd : d < s.2.length) : KW n ls (d + 1) (((usRun 0 (List.replicate n []) ls).getD (s.2[d].toNat) []).foldl relax s) := by
  have hU : AllR n (usRun 0 (List.replicate n []) ls) := usRun_in ls (by omega) (fun l hl => by rw [List.mem_replicate] at hl; rw [hl.2]; intro x hx; cases hx)
  have hL := getD_mem_l hU (s.2[d].toNat)
  obtain ⟨e, he⟩ := relaxAll_ext ((usRun 0 (List.replicate n []) ls).getD (s.2[d].toNat) []) s
  have hlen : d + 1 ≤ (((usRun 0 (List.replicate n []) ls).getD (s.2[d].toNat) []).foldl relax s).2.length := by rw [he, List.length_append]; omega
  have htk : ∀ m, m ≤ s.2.length → (((usRun 0 (List.replicate n []) ls).getD (s.2[d].toNat) []).foldl relax s).2.take m = s.2.take m := fun m hm => by rw [he, List.take_append_of_le_length hm]
  refine ⟨h.ki.all hL, hlen, fun k hk => ?_, h.wait.all h.ki.len hL, fun p hp hpl j hj => ?_⟩
  · rw [relaxAll_get k h.ki.len hL, h.eq k hk, htk _ (by omega), List.take_succ_eq_append_getElem hd, hits_snoc]
    omega
  · have hpl2 : p < s.2.length := by omega
    have e1 : (((usRun 0 (List.replicate n []) ls).getD (s.2[d].toNat) []).foldl relax s).2[p] = s.2[p] := by
      simp only [he]
      rw [List.getElem_append_left hpl2]
    rw [e1] at hj
    rw [htk _ (by omega)]
    rcases Nat.lt_or_ge p d with hpd | hpd
    · exact h.pre p hpd hpl2 j hj
    · have : p = d := by omega
      subst this
      exact h.need hA (List.getElem_mem hpl2) j hj
theorem KW.start {n : Nat} {ls : List (List Int)} (hll : ls.length = n) : KW n ls 0 (ls.map (fun l => (l.length : Int)), freeRun 0 [] ls) := by
  have hk := KI.start ls
  rw [hll] at hk
  refine ⟨hk, Nat.zero_le _, fun k hk => ?_, fun k hk hnot => ?_, fun p hp => by omega⟩
  · have hk' : k < ls.length := by omega
    simp [hits, List.getD_eq_getElem?_getD, hk']
  · have hk' : k < ls.length := by omega
    have key : ∀ (r : List (List Int)) (i : Nat) (free : List Int), (∀ x, x ∈ free → x ∈ freeRun i free r) ∧ ∀ t (ht : t < r.length), r[t] = [] → ((i + t : Nat) : Int) ∈ freeRun i free r := by
      intro r
      induction r with
      | nil => intro i free; exact ⟨fun x hx => hx, fun t ht => by simp at ht⟩
      | cons l r ih =>
        intro i free
        unfold freeRun
        obtain ⟨i1, i2⟩ := ih (i + 1) (if l = [] then free ++ [(i : Int)] else free)
        refine ⟨fun x hx => i1 x (by split <;> simp [hx]), fun t ht he => ?_⟩
        cases t with
        | zero => exact i1 _ (by rw [if_pos (by simpa using he)]; simp)
        | succ t =>
          have := i2 t (by simpa using ht) (by simpa using he)
          rw [show i + (t + 1) = i + 1 + t from by omega]
          exact this
    have h3 : ls[k] ≠ [] := fun h => hnot (by have := (key ls 0 []).2 k hk' h; rw [Nat.zero_add] at this; exact this)
    have h4 : 0 < ls[k].length := List.length_pos_iff.2 h3
    simp [List.getD_eq_getElem?_getD, hk']
    omega
theorem kahn_end {n : Nat} {ls : List (List Int)} (hA : AllR n ls) (hll : ls.length ≤ n) : ∀ (f d : Nat) (s : List Int × List Int), KW n ls d s → f + d = n → ∃ s' d', kahn (usRun 0 (List.replicate n []) ls) f d s = (d', s') ∧ KW n ls d' s' ∧ (d' = s'.2.length ∨ d' = n)
  | 0, d, s, h, e => ⟨s, d, rfl, h, .inr (by omega)⟩
  | f + 1, d, s, h, e => by
    unfold kahn
    by_cases hd : d < s.2.length
    · rw [dif_pos hd]
      exact kahn_end hA hll f (d + 1) _ (h.step hA hll hd) (by omega)
    · rw [dif_neg hd]
      exact ⟨s, d, rfl, h, .inl (by have := h.le; omega)⟩
theorem nodup_all : ∀ (n : Nat) (l : List Int), l.Nodup → InR n l → l.length = n → ∀ k : Nat, k < n → (k : Int) ∈ l
  | 0, l, _, _, _, k, hk => by omega
  | n + 1, l, hn, h, hl, k, hk => by
    have hin : (n : Int) ∈ l := by
      refine Classical.byContradiction fun hnot => ?_
      have := nodup_len n l hn (fun x hx => ⟨(h x hx).1, by have := (h x hx).2; have : x ≠ (n : Int) := fun e => hnot (e ▸ hx); omega⟩)
      omega
    rcases Nat.lt_or_ge k n with hk' | hk'
    · have := nodup_all n (l.erase (n : Int)) (hn.erase _) (fun x hx => by
        have h2 := (List.Nodup.mem_erase_iff hn).1 hx
        have h3 := h x h2.2
        have h4 := h2.1
        omega) (by rw [List.length_erase_of_mem hin]; omega) k hk'
      exact List.mem_of_mem_erase this
    · have : k = n := by omega
      subst this; exact hin
/-- If all come to be done, of any some there is one that comes behind none of them. -/
theorem kahn_least {n : Nat} {ls : List (List Int)} (hA : AllR n ls) (hll : ls.length = n) (hK : ¬ (kahnOf n ls).1 < n) (C : Nat → Prop) (hC : ∃ k, k < n ∧ C k) : ∃ k, k < n ∧ C k ∧ ∀ j, j ∈ ls.getD k [] → ¬ C j.toNat := by
  obtain ⟨s, d, he, hW, _⟩ := kahn_end hA (by omega) n 0 _ (KW.start hll) (by omega)
  unfold kahnOf at hK
  rw [he] at hK
  have hlen := hW.ki.le
  have hle := hW.le
  have hd : d = n := by simp only at hK; omega
  have hall := nodup_all n s.2 hW.ki.nod hW.ki.inr (by omega)
  obtain ⟨k, hk, hCk⟩ := hC
  obtain ⟨p, hp, hpk⟩ := List.getElem_of_mem (hall k hk)
  have key : ∀ (m : Nat) (q : Nat) (hq : q < s.2.length), q < m → C (s.2[q].toNat) → ∃ k, k < n ∧ C k ∧ ∀ j, j ∈ ls.getD k [] → ¬ C j.toNat := by
    intro m
    induction m with
    | zero => intro q hq hm; omega
    | succ m ih =>
      intro q hq hm hc
      by_cases hex : ∃ q', ∃ h : q' < s.2.length, q' < q ∧ C (s.2[q'].toNat)
      · obtain ⟨q', h', hlt, hc'⟩ := hex
        exact ih q' h' (by omega) hc'
      · have hr := hW.ki.inr _ (List.getElem_mem hq)
        refine ⟨s.2[q].toNat, by omega, hc, fun j hj hCj => hex ?_⟩
        have := hW.pre q (by omega) hq j hj
        obtain ⟨q', hq', e⟩ := List.getElem_of_mem this
        rw [List.length_take] at hq'
        refine ⟨q', by omega, by omega, ?_⟩
        rw [List.getElem_take] at e
        rw [e]; exact hCj
  exact key (p + 1) p hp (by omega) (by rw [hpk]; simpa using hCk)
/-- If not all come to be done, there are some of which each comes behind one of them. -/
theorem kahn_stuck {n : Nat} {ls : List (List Int)} (hA : AllR n ls) (hll : ls.length = n) (hK : (kahnOf n ls).1 < n) : ∃ C : Nat → Prop, (∃ k, k < n ∧ C k) ∧ ∀ k, k < n → C k → ∃ j, j ∈ ls.getD k [] ∧ C j.toNat := by
  obtain ⟨s, d, he, hW, hend⟩ := kahn_end hA (by omega) n 0 _ (KW.start hll) (by omega)
  unfold kahnOf at hK
  rw [he] at hK
  simp only at hK
  have hd : d = s.2.length := hend.resolve_right (by omega)
  refine ⟨fun k => k < n ∧ (k : Int) ∉ s.2, ?_, fun k hk hC => ?_⟩
  · refine Classical.byContradiction fun hno => ?_
    have hin : ∀ k : Nat, k < n → (k : Int) ∈ s.2 := fun k hk => Classical.byContradiction fun h => hno ⟨k, hk, hk, h⟩
    have : ∀ (m : Nat) (l : List Int), (∀ k : Nat, k < m → (k : Int) ∈ l) → m ≤ l.length := by
      intro m
      induction m with
      | zero => intros; omega
      | succ m ih =>
        intro l hl
        have h1 := hl m (by omega)
        have := ih (l.erase (m : Int)) (fun k hk => (List.mem_erase_of_ne (by omega)).2 (hl k (by omega)))
        rw [List.length_erase_of_mem h1] at this
        have := List.length_pos_of_mem h1
        omega
    have := this n s.2 hin
    omega
  · have h1 := hW.wait k hk hC.2
    rw [hW.eq k hk, hd, List.take_length, hits_mem hA _ _ rfl hW.ki.nod hW.ki.inr] at h1
    refine Classical.byContradiction fun hno => ?_
    have : (ls.getD k []).countP (fun y => decide (y ∈ s.2)) = (ls.getD k []).length := by
      rw [List.countP_eq_length]
      intro j hj
      have hr := getD_mem_l hA k j hj
      refine decide_eq_true (Classical.byContradiction fun hjn => hno ⟨j, hj, by omega, ?_⟩)
      have e : ((j.toNat : Nat) : Int) = j := by omega
      rw [e]; exact hjn
    omega
end Go.Proofs.Ytcbhdjpigadhmaa
