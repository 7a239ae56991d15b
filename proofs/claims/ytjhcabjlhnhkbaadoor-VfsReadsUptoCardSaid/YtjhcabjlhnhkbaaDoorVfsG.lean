/-
  The store, plainly: the other calls, and what holds of the stores behind them.
-/
import Derived.Test.YtjhcabjlhnhkbaaDoorVfsE
import Derived.Test.YtjhcabjlhnhkbaaDoorMapR
set_option linter.unusedVariables false
set_option linter.unusedSimpArgs false
namespace Go.Proofs.YtjhcabjlhnhkbaaDoor

def sortT (l : List (List UInt8)) : List (List UInt8) := l.mergeSort (fun x y => decide (x ≤ y))
def nameOf (q : List UInt8) : List UInt8 := nameL q
def tickS (s : St) : St := { s with clock := s.clock + 1 }
def appendS (s : St) (p t : List UInt8) : St × Nat := writeS s p ((findS s p).2.1.text ++ t)
def readS (s : St) (p : List UInt8) : St × List UInt8 × Nat :=
  if (findS s p).2.2 ≠ 0 then (s, [], (findS s p).2.2) else if (findS s p).2.1.dir = true then (s, [], 8) else (noteS s 1 (findS s p).1, (findS s p).2.1.text, 0)
def under (q : List UInt8) (x : List UInt8 × VF) : Option (List UInt8) := if x.1 ≠ rootS ∧ dirL x.1 = q then some (nameL x.1) else none
def plainF (x : List UInt8 × VF) : Option (List UInt8) := if x.2.dir = true then none else some x.1
def listS (s : St) (p : List UInt8) : List (List UInt8) × Nat :=
  if (findS s p).2.2 ≠ 0 then ([], (findS s p).2.2) else if (findS s p).2.1.dir = false then ([], 8) else (sortT (s.files.filterMap (under (findS s p).1)), 0)
def allS (s : St) : List (List UInt8) := sortT (s.files.filterMap plainF)
def dropS (s : St) (q : List UInt8) : St := { s with used := s.used - ((txtS s q).length : Int), files := mdel s.files q }
def removeS (s : St) (p : List UInt8) : St × Nat :=
  if (findS s p).2.2 ≠ 0 then (s, (findS s p).2.2)
  else if (findS s p).2.1.dir = true then
    if (findS s p).1 = rootS ∨ 0 < (listS s (findS s p).1).1.length then (s, 9) else (tickS (dropS s (findS s p).1), 0)
  else (tickS (dropS (noteS s 3 (findS s p).1) (findS s p).1), 0)
def moveS (s : St) (p1 p2 : List UInt8) : St × Nat :=
  if (findS s p1).2.2 ≠ 0 ∧ (findS s p1).2.2 ≠ 6 then (s, (findS s p1).2.2)
  else if (findS s p2).2.2 ≠ 0 ∧ (findS s p2).2.2 ≠ 6 then (s, (findS s p2).2.2)
  else if (findS s p1).2.2 = 6 ∨ homeS s (findS s p2).1 = 6 then (s, 6)
  else if (findS s p1).2.1.dir = true ∨ (findS s p2).2.1.dir = true ∨ homeS s (findS s p2).1 ≠ 0 then (s, 8)
  else if (findS s p1).1 = (findS s p2).1 then (tickS s, 0)
  else (noteS (noteS (putS (dropS s (findS s p1).1) (findS s p2).1 ⟨(findS s p1).2.1.text, 0, false⟩) 3 (findS s p1).1) 2 (findS s p2).1, 0)
def mkdirS (s : St) (p : List UInt8) : St × Nat :=
  if (findS s p).2.2 = 0 then (s, 7) else if (findS s p).2.2 ≠ 6 then (s, (findS s p).2.2)
  else if homeS s (findS s p).1 ≠ 0 then (s, homeS s (findS s p).1)
  else if 512 ≤ s.files.length then (s, 9) else (putS s (findS s p).1 ⟨[], 0, true⟩, 0)
def laterS (s : St) (n : Int) : St := if 0 ≤ n ∧ n ≤ 1099511627776 ∧ s.clock ≤ 1152921504606846976 then { s with clock := s.clock + n } else s
/-- One call. -/
structure ActS where
  kind : Nat
  p : List UInt8
  q : List UInt8
  t : List UInt8
  n : Int
def doesS (s : St) (a : ActS) : St × Nat :=
  if a.kind % 10 = 0 then writeS s a.p a.t
  else if a.kind % 10 = 1 then appendS s a.p a.t
  else if a.kind % 10 = 2 then ((readS s a.p).1, (readS s a.p).2.2)
  else if a.kind % 10 = 3 then removeS s a.p
  else if a.kind % 10 = 4 then moveS s a.p a.q
  else if a.kind % 10 = 5 then mkdirS s a.p
  else if a.kind % 10 = 6 then touchS s a.p
  else if a.kind % 10 = 7 then (laterS s a.n, 0)
  else if a.kind % 10 = 8 then ((notesS s (decide (a.n % 2 = 1))).1, 0)
  else (s, (listS s a.p).2)

theorem mdel_sub (m : List (List UInt8 × VF)) (k : List UInt8) : (mdel m k).Sublist m := by
  unfold mdel
  split
  · exact List.eraseIdx_sublist _ _
  · exact List.Sublist.refl _
theorem sum_del (m : List (List UInt8 × VF)) (k : List UInt8) : (sumT (mdel m k) : Int) = sumT m - ((((mget m k).getD VF.zero).text.length : Nat) : Int) := by
  induction m with
  | nil => simp [mdel_nil, mget_nil, sumT, VF.zero]
  | cons p m ih =>
    rw [mdel_cons, mget_cons]
    by_cases h : k = p.1
    · rw [if_pos h, if_pos h]
      simp only [sumT, List.map_cons, List.sum_cons, Option.getD_some]
      omega
    · rw [if_neg h, if_neg h]
      simp only [sumT, List.map_cons, List.sum_cons] at ih ⊢
      omega
theorem mget_del_ne {m : List (List UInt8 × VF)} {k k' : List UInt8} (h : k' ≠ k) : mget (mdel m k) k' = mget m k' := by
  induction m with
  | nil => rfl
  | cons p m ih =>
    rw [mdel_cons, mget_cons]
    by_cases e : k = p.1
    · rw [if_pos e, if_neg (by rw [← e]; exact h)]
    · rw [if_neg e, mget_cons, ih]
theorem whereL_canon {p q : List UInt8} (h : whereL p = some q) : whereL q = some q := by
  unfold whereL at h
  split at h
  · rename_i hall
    cases h
    have hr : rootedL (cleanL (47 :: p)) = true := by rw [(parts_clean (47 :: p)).2]; rfl
    have hp : partsL (47 :: cleanL (47 :: p)) = partsL (cleanL (47 :: p)) := by
      have e : splitL 47 (47 :: cleanL (47 :: p)) = [] :: splitL 47 (cleanL (47 :: p)) := by
        have := split_app (c := 47) (a := []) (cleanL (47 :: p)) (fun x hx => by cases hx)
        simpa using this
      unfold partsL
      rw [e, List.foldl_cons, step_nil]
      have : rootedL (47 :: cleanL (47 :: p)) = rootedL (cleanL (47 :: p)) := by rw [hr]; rfl
      rw [this]
    have hc : cleanL (47 :: cleanL (47 :: p)) = cleanL (47 :: p) := by
      rw [clean_of (a := 47 :: cleanL (47 :: p)) (b := cleanL (47 :: p)) (by rw [hr]; rfl) hp, clean_clean]
    unfold whereL
    rw [hc, if_pos hall]
  · cases h
/-- What holds of a store behind k calls. -/
structure OkS (s : St) (k : Int) : Prop where
  good : GoodS s
  ck : s.clock ≤ 1152922604118474752 + k
  canon : ∀ x, x ∈ s.files → whereL x.1 = some x.1
  short : ∀ x, x ∈ s.files → x.1.length ≤ 140000
theorem newS_ok {room : Int} (h0 : 0 ≤ room) (h1 : room ≤ 1048576) : OkS (newS room) 0 := by
  refine ⟨newS_good h0 h1, by show (0 : Int) ≤ _; omega, fun x hx => ?_, fun x hx => ?_⟩
  · simp [newS] at hx
    subst hx
    rfl
  · simp [newS] at hx
    subst hx
    show 1 ≤ 140000
    omega
theorem OkS.more {s : St} {k j : Int} (h : OkS s k) (hk : k ≤ j) : OkS s j := ⟨h.good, by have := h.ck; omega, h.canon, h.short⟩
theorem tickS_ok {s : St} {k : Int} (h : OkS s k) : OkS (tickS s) (k + 1) := by
  obtain ⟨g, c, n, sh⟩ := h
  exact ⟨⟨g.room0, g.room1, g.used, g.fits, g.keys, g.len, by show 0 ≤ s.clock + 1; have := g.clock; omega, g.notes, g.text, fun x hx => ⟨(g.time x hx).1, by show _ ≤ s.clock + 1; have := (g.time x hx).2; omega⟩, g.path⟩, by show s.clock + 1 ≤ _; omega, n, sh⟩
theorem noteS_ok {s : St} {k : Int} (h : OkS s k) (j : Int) (q : List UInt8) : OkS (noteS s j q) k := by
  refine ⟨noteS_good h.good j q, ?_, ?_, ?_⟩
  · unfold noteS; split <;> exact h.ck
  · unfold noteS; split <;> exact h.canon
  · unfold noteS; split <;> exact h.short
theorem dropS_ok {s : St} {k : Int} (h : OkS s k) (q : List UInt8) : OkS (dropS s q) k := by
  obtain ⟨g, c, n, sh⟩ := h
  have hs := mdel_sub s.files q
  refine ⟨⟨g.room0, g.room1, ?_, ?_, g.keys.sublist (hs.map _), Nat.le_trans hs.length_le g.len, g.clock, g.notes, fun x hx => g.text x (hs.subset hx), fun x hx => g.time x (hs.subset hx), fun x hx => g.path x (hs.subset hx)⟩, c, fun x hx => n x (hs.subset hx), fun x hx => sh x (hs.subset hx)⟩
  · show s.used - _ = _
    have := sum_del s.files q
    show s.used - ((txtS s q).length : Int) = ((sumT (mdel s.files q) : Nat) : Int)
    rw [this, g.used]; rfl
  · show s.used - ((txtS s q).length : Int) ≤ s.room
    have := g.fits
    omega
theorem putS_ok {s : St} {k : Int} (h : OkS s k) {q : List UInt8} {f : VF} (hw : whereL q = some q) (hq : q.length ≤ 140000) (ht : f.text.length ≤ 65536) (hd : f.dir = true → f.text = []) (hl : mhas s.files q = true ∨ s.files.length < 512)
    (hf : s.used - ((txtS s q).length : Int) ≤ s.room - (f.text.length : Int)) : OkS (putS s q f) (k + 1) := by
  refine ⟨putS_good h.good (by omega) ht hd hl hf, by show s.clock + 1 ≤ _; have := h.ck; omega, fun x hx => ?_, fun x hx => ?_⟩
  · rcases mput_mem hx with rfl | hx
    · exact hw
    · exact h.canon x hx
  · rcases mput_mem hx with rfl | hx
    · exact hq
    · exact h.short x hx
theorem whereL_len2 {p q : List UInt8} (h : whereL p = some q) (hp : p.length ≤ 130000) : q.length ≤ 140000 := by
  unfold whereL at h
  split at h
  · cases h
    have := clean_len (47 :: p)
    rw [List.length_cons] at this
    omega
  · cases h
theorem find_text {s : St} {k : Int} (h : OkS s k) (p : List UInt8) : (findS s p).2.1.text.length ≤ 65536 ∧ ((findS s p).2.1.dir = true → (findS s p).2.1.text = []) ∧ 0 ≤ (findS s p).2.1.time ∧ (findS s p).2.1.time ≤ s.clock := by
  have hc := h.good.clock
  rcases findS_e s p with ⟨_, e, _⟩ | ⟨_, e, _⟩ | ⟨_, e, _⟩
  · rw [e]; exact ⟨Nat.zero_le _, (fun h => by cases h), Int.le_refl _, hc⟩
  · rw [e]; exact ⟨Nat.zero_le _, (fun h => by cases h), Int.le_refl _, hc⟩
  · have hm := mget_mem e
    exact ⟨(h.good.text _ hm).1, (h.good.text _ hm).2, (h.good.time _ hm).1, (h.good.time _ hm).2⟩
theorem find_where {s : St} {p : List UInt8} (h : (findS s p).2.2 ≠ 1) : whereL p = some (findS s p).1 := by
  rcases findS_e s p with ⟨e, _, _⟩ | ⟨_, _, _, e⟩ | ⟨_, _, e⟩
  · exact absurd e h
  · exact e
  · exact e
theorem find_e (s : St) (p : List UInt8) : (findS s p).2.2 = 0 ∨ (findS s p).2.2 = 1 ∨ (findS s p).2.2 = 6 := by
  rcases findS_e s p with ⟨e, _⟩ | ⟨e, _⟩ | ⟨e, _⟩
  · exact .inr (.inl e)
  · exact .inr (.inr e)
  · exact .inl e
theorem find_txt (s : St) (p : List UInt8) (h : (findS s p).2.2 ≠ 1) : txtS s (findS s p).1 = (findS s p).2.1.text := by
  unfold txtS
  rcases findS_e s p with ⟨e, _⟩ | ⟨_, e, e2, _⟩ | ⟨_, e, _⟩
  · exact absurd e h
  · rw [e2, e]; rfl
  · rw [e]; rfl
/-- Behind a call the store is as it should be; the clock goes on; a call that is refused turns nothing. -/
structure GoesS (s : St) (k : Int) (r : St × Nat) : Prop where
  ok : OkS r.1 (k + 1)
  mono : s.clock ≤ r.1.clock
  refused : r.2 ≠ 0 → r.1 = s
theorem GoesS.stay {s : St} {k : Int} (h : OkS s k) (e : Nat) : GoesS s k (s, e) := ⟨h.more (by omega), Int.le_refl _, fun _ => rfl⟩
theorem noteS_clock (s : St) (j : Int) (q : List UInt8) : (noteS s j q).clock = s.clock ∧ (noteS s j q).files = s.files ∧ (noteS s j q).used = s.used ∧ (noteS s j q).room = s.room := by
  unfold noteS; split <;> exact ⟨rfl, rfl, rfl, rfl⟩
theorem writeS_goes {s : St} {k : Int} (h : OkS s k) (p t : List UInt8) (hp : p.length ≤ 130000) : GoesS s k (writeS s p t) := by
  unfold writeS
  split
  · exact .stay h _
  split
  · exact .stay h _
  split
  · exact .stay h _
  split
  · exact .stay h _
  split
  · exact .stay h _
  rename_i h1 h2 h3 h4 h5
  have hne : (findS s p).2.2 ≠ 1 := fun e => h1 ⟨by omega, by omega⟩
  have hq := find_where hne
  have hql := whereL_len2 hq hp
  refine ⟨noteS_ok (putS_ok h (whereL_canon hq) hql (by show t.length ≤ 65536; omega) (fun h => by cases h) ?_ ?_) _ _, ?_, fun hc => absurd rfl hc⟩
  · rcases findS_e s p with ⟨e, _, _⟩ | ⟨e, _, _, _⟩ | ⟨_, e, _⟩
    · exact absurd e hne
    · right
      apply Nat.lt_of_not_le
      intro hc
      exact h5 (.inr ⟨e, hc⟩)
    · left; unfold mhas; rw [e]; rfl
  · show s.used - ((txtS s (findS s p).1).length : Int) ≤ s.room - (t.length : Int)
    rw [find_txt s p hne]
    have : ¬ s.room - (t.length : Int) < s.used - ((findS s p).2.1.text.length : Int) := fun hc => h5 (.inl hc)
    omega
  · show s.clock ≤ (noteS _ _ _).clock
    rw [(noteS_clock _ _ _).1]; show s.clock ≤ s.clock + 1; omega
theorem touchS_goes {s : St} {k : Int} (h : OkS s k) (p : List UInt8) (hp : p.length ≤ 130000) : GoesS s k (touchS s p) := by
  unfold touchS
  split
  · rename_i hd
    have he : (findS s p).2.2 = 0 ∧ mget s.files (findS s p).1 = some (findS s p).2.1 ∧ whereL p = some (findS s p).1 := by
      rcases findS_e s p with ⟨_, e, _⟩ | ⟨_, e, _⟩ | h0
      · rw [e] at hd; cases hd
      · rw [e] at hd; cases hd
      · exact h0
    obtain ⟨e0, e1, e2⟩ := he
    obtain ⟨t1, t2, _, _⟩ := find_text h p
    refine ⟨putS_ok h (whereL_canon e2) (whereL_len2 e2 hp) t1 t2 (.inl (by unfold mhas; rw [e1]; rfl)) ?_, by show s.clock ≤ s.clock + 1; omega, fun hc => absurd rfl hc⟩
    rw [find_txt s p (by omega)]
    have := h.good.fits
    omega
  · exact writeS_goes h p _ hp
theorem readS_goes {s : St} {k : Int} (h : OkS s k) (p : List UInt8) : GoesS s k ((readS s p).1, (readS s p).2.2) := by
  unfold readS
  split
  · exact .stay h _
  split
  · exact .stay h _
  · exact ⟨(noteS_ok h _ _).more (by omega), by show s.clock ≤ (noteS s 1 _).clock; rw [(noteS_clock _ _ _).1]; omega, fun hc => absurd rfl hc⟩
theorem removeS_goes {s : St} {k : Int} (h : OkS s k) (p : List UInt8) : GoesS s k (removeS s p) := by
  unfold removeS
  split
  · exact .stay h _
  split
  · split
    · exact .stay h _
    · exact ⟨tickS_ok (dropS_ok h _), by show s.clock ≤ s.clock + 1; omega, fun hc => absurd rfl hc⟩
  · exact ⟨tickS_ok (dropS_ok (noteS_ok h _ _) _), by show s.clock ≤ (noteS s 3 _).clock + 1; rw [(noteS_clock _ _ _).1]; omega, fun hc => absurd rfl hc⟩
theorem move_put_ok {s : St} {k : Int} (h : OkS s k) (p1 p2 : List UInt8) (hp : p2.length ≤ 130000) (z1 : (findS s p1).2.2 = 0) (n2 : (findS s p2).2.2 ≠ 1) :
    OkS (putS (dropS s (findS s p1).1) (findS s p2).1 ⟨(findS s p1).2.1.text, 0, false⟩) (k + 1) := by
  have n1 : (findS s p1).2.2 ≠ 1 := by omega
  have hq := find_where n2
  have e1 : mget s.files (findS s p1).1 = some (findS s p1).2.1 := by
    rcases findS_e s p1 with ⟨e, _⟩ | ⟨e, _⟩ | ⟨_, e, _⟩
    · exact absurd e n1
    · rw [z1] at e; cases e
    · exact e
  obtain ⟨t1, _, _, _⟩ := find_text h p1
  have hlen : (mdel s.files (findS s p1).1).length < 512 := by
    have hg := h.good.len
    have : (mdel s.files (findS s p1).1).length + 1 = s.files.length := by
      have aux : ∀ (m : List (List UInt8 × VF)) (k : List UInt8) (v : VF), mget m k = some v → (mdel m k).length + 1 = m.length := by
        intro m k v
        induction m with
        | nil => intro h; cases h
        | cons p m ih =>
          intro h
          rw [mget_cons] at h
          rw [mdel_cons]
          split
          · simp
          · rename_i e
            rw [if_neg e] at h
            rw [List.length_cons, ih h, List.length_cons]
      exact aux _ _ _ e1
    omega
  refine putS_ok (dropS_ok h _) (whereL_canon hq) (whereL_len2 hq hp) t1 (fun h => by cases h) (.inr hlen) ?_
  show s.used - ((txtS s (findS s p1).1).length : Int) - (((txtS (dropS s (findS s p1).1) (findS s p2).1).length : Nat) : Int) ≤ s.room - ((findS s p1).2.1.text.length : Int)
  rw [find_txt s p1 n1]
  have := h.good.fits
  omega
theorem moveS_goes {s : St} {k : Int} (h : OkS s k) (p1 p2 : List UInt8) (hp : p2.length ≤ 130000) : GoesS s k (moveS s p1 p2) := by
  unfold moveS
  split
  · exact .stay h _
  split
  · exact .stay h _
  split
  · exact .stay h _
  split
  · exact .stay h _
  split
  · exact ⟨tickS_ok h, by show s.clock ≤ s.clock + 1; omega, fun hc => absurd rfl hc⟩
  rename_i h1 h2 h3 h4 h5
  have n1 : (findS s p1).2.2 ≠ 1 := fun e => h1 ⟨by omega, by omega⟩
  have n2 : (findS s p2).2.2 ≠ 1 := fun e => h2 ⟨by omega, by omega⟩
  have z1 : (findS s p1).2.2 = 0 := by
    rcases find_e s p1 with e | e | e
    · exact e
    · exact absurd e n1
    · exact absurd (.inl e) h3
  have hA := move_put_ok h p1 p2 hp z1 n2
  refine ⟨noteS_ok (noteS_ok hA 3 _) 2 _, ?_, fun hc => absurd rfl hc⟩
  show s.clock ≤ (noteS (noteS _ 3 _) 2 _).clock
  rw [(noteS_clock _ _ _).1, (noteS_clock _ _ _).1]; show s.clock ≤ s.clock + 1; omega
theorem mkdirS_goes {s : St} {k : Int} (h : OkS s k) (p : List UInt8) (hp : p.length ≤ 130000) : GoesS s k (mkdirS s p) := by
  unfold mkdirS
  split
  · exact .stay h _
  split
  · exact .stay h _
  split
  · exact .stay h _
  split
  · exact .stay h _
  rename_i h1 h2 h3 h4
  have n1 : (findS s p).2.2 ≠ 1 := by omega
  have hq := find_where n1
  refine ⟨putS_ok h (whereL_canon hq) (whereL_len2 hq hp) (Nat.zero_le _) (fun _ => rfl) (.inr (by omega)) ?_, by show s.clock ≤ s.clock + 1; omega, fun hc => absurd rfl hc⟩
  show s.used - ((txtS s (findS s p).1).length : Int) ≤ s.room - ((0 : Nat) : Int)
  have := h.good.fits
  omega
theorem laterS_goes {s : St} {k : Int} (h : OkS s k) (hk : 0 ≤ k) (n : Int) : GoesS s k (laterS s n, 0) := by
  unfold laterS
  split
  · rename_i hn
    obtain ⟨g, c, m, sh⟩ := h
    refine ⟨⟨⟨g.room0, g.room1, g.used, g.fits, g.keys, g.len, by show 0 ≤ s.clock + n; have := g.clock; omega, g.notes, g.text, fun x hx => ⟨(g.time x hx).1, by show _ ≤ s.clock + n; have := (g.time x hx).2; omega⟩, g.path⟩, by show s.clock + n ≤ _; omega, m, sh⟩, by show s.clock ≤ s.clock + n; omega, fun hc => absurd rfl hc⟩
  · exact .stay h _
theorem notesS_goes {s : St} {k : Int} (h : OkS s k) (b : Bool) : GoesS s k ((notesS s b).1, 0) := by
  obtain ⟨g, c, m, sh⟩ := h
  exact ⟨⟨⟨g.room0, g.room1, g.used, g.fits, g.keys, g.len, g.clock, Nat.zero_le _, g.text, g.time, g.path⟩, by show s.clock ≤ _; omega, m, sh⟩, Int.le_refl _, fun hc => absurd rfl hc⟩
theorem doesS_goes {s : St} {k : Int} (h : OkS s k) (hk : 0 ≤ k) (a : ActS) (hp : a.p.length ≤ 130000) (hq : a.q.length ≤ 130000) : GoesS s k (doesS s a) := by
  unfold doesS
  repeat' split
  · exact writeS_goes h _ _ hp
  · exact writeS_goes h _ _ hp
  · exact readS_goes h _
  · exact removeS_goes h _
  · exact moveS_goes h _ _ hq
  · exact mkdirS_goes h _ hp
  · exact touchS_goes h _ hp
  · exact laterS_goes h hk _
  · exact notesS_goes h _
  · exact .stay h _
end Go.Proofs.YtjhcabjlhnhkbaaDoor
