/-
  Layer 03 (vfs), plainly: scripts, copies, and what is young.
-/
import Derived.Test.YtjhcabjlhnhkbaaDoorVfsG
set_option linter.unusedVariables false
set_option linter.unusedSimpArgs false
namespace Go.Proofs.YtjhcabjlhnhkbaaDoor

def runA (s : St) (l : List ActS) : St := l.foldl (fun s a => (doesS s a).1) s
theorem runA_snoc (s : St) (l : List ActS) (k : Nat) (h : k < l.length) : runA s (l.take (k + 1)) = (doesS (runA s (l.take k)) l[k]).1 := by
  rw [List.take_succ_eq_append_getElem h]
  unfold runA
  rw [List.foldl_append]; rfl
theorem runA_ok : ∀ {l : List ActS} {s : St} {j : Int}, OkS s j → 0 ≤ j → (∀ a, a ∈ l → a.p.length ≤ 130000 ∧ a.q.length ≤ 130000) → OkS (runA s l) (j + l.length)
  | [], s, j, h, _, _ => h.more (by simp)
  | a :: l, s, j, h, hj, hl => by
    have h1 := (doesS_goes h hj a (hl a (by simp)).1 (hl a (by simp)).2).ok
    have h2 := runA_ok (l := l) h1 (by omega) (fun b hb => hl b (by simp [hb]))
    refine h2.more ?_
    rw [List.length_cons]
    omega
theorem findS_files {s c : St} (h : c.files = s.files) (p : List UInt8) : findS c p = findS s p := by unfold findS; rw [h]
theorem readS_files {s c : St} (h : c.files = s.files) (p : List UInt8) : (readS c p).2 = (readS s p).2 ∧ (readS c p).1.files = s.files := by
  unfold readS
  rw [findS_files h]
  split
  · exact ⟨rfl, h⟩
  split
  · exact ⟨rfl, h⟩
  · exact ⟨rfl, (noteS_clock c 1 _).2.1.trans h⟩
theorem allS_files {s c : St} (h : c.files = s.files) : allS c = allS s := by unfold allS; rw [h]
theorem allS_mem {s : St} {q : List UInt8} (h : q ∈ allS s) : ∃ f, (q, f) ∈ s.files ∧ f.dir = false := by
  unfold allS sortT at h
  have h1 := (List.mergeSort_perm _ _).mem_iff.1 h
  obtain ⟨x, hx, he⟩ := List.mem_filterMap.1 h1
  unfold plainF at he
  split at he
  · cases he
  · rename_i hd
    cases he
    exact ⟨x.2, hx, by simpa using hd⟩
/-- The same but for what is noted. -/
def ghost (s : St) (x : Bool) (y : List (Int × List UInt8)) : St := { s with noting := x, notes := y }
theorem ghost_same (s : St) : ghost s s.noting s.notes = s := rfl
theorem noteS_ghost (s : St) (k : Int) (q : List UInt8) : ∃ y, noteS s k q = ghost s s.noting y := by
  unfold noteS
  split
  · exact ⟨_, rfl⟩
  · exact ⟨_, rfl⟩
structure SameS (s c : St) : Prop where
  fi : c.files = s.files
  us : c.used = s.used
  ck : c.clock = s.clock
  rm : c.room = s.room
theorem SameS.refl (s : St) : SameS s s := ⟨rfl, rfl, rfl, rfl⟩
theorem SameS.note {s c : St} (h : SameS s c) (k j : Int) (p q : List UInt8) : SameS (noteS s k p) (noteS c j q) := by
  obtain ⟨a1, a2, a3, a4⟩ := noteS_clock s k p
  obtain ⟨b1, b2, b3, b4⟩ := noteS_clock c j q
  exact ⟨by rw [a2, b2, h.fi], by rw [a3, b3, h.us], by rw [a1, b1, h.ck], by rw [a4, b4, h.rm]⟩
theorem SameS.noteL {s c : St} (h : SameS s c) (k : Int) (p : List UInt8) : SameS (noteS s k p) c := by
  obtain ⟨a1, a2, a3, a4⟩ := noteS_clock s k p
  exact ⟨by rw [a2, h.fi], by rw [a3, h.us], by rw [a1, h.ck], by rw [a4, h.rm]⟩
theorem SameS.put {s c : St} (h : SameS s c) (q : List UInt8) (f : VF) : SameS (putS s q f) (putS c q f) := by
  unfold putS txtS
  exact ⟨by rw [h.fi, h.ck], by show c.used + _ = s.used + _; rw [h.us, h.fi], by show c.clock + 1 = s.clock + 1; rw [h.ck], h.rm⟩
theorem SameS.drop {s c : St} (h : SameS s c) (q : List UInt8) : SameS (dropS s q) (dropS c q) := by
  unfold dropS txtS
  exact ⟨by rw [h.fi], by show c.used - _ = s.used - _; rw [h.us, h.fi], h.ck, h.rm⟩
theorem SameS.tick {s c : St} (h : SameS s c) : SameS (tickS s) (tickS c) := ⟨h.fi, h.us, by show c.clock + 1 = s.clock + 1; rw [h.ck], h.rm⟩
theorem SameS.write {s c : St} (h : SameS s c) (p t : List UInt8) : SameS (writeS s p t).1 (writeS c p t).1 := by
  have e1 := findS_files h.fi p
  have e2 : homeS c (findS s p).1 = homeS s (findS s p).1 := by unfold homeS; rw [h.fi]
  unfold writeS
  rw [e1, e2, h.us, h.rm, h.fi]
  split
  · exact h
  split
  · exact h
  split
  · exact h
  split
  · exact h
  split
  · exact h
  · exact (h.put _ _).note _ _ _ _
theorem listS_files {s c : St} (h : c.files = s.files) (p : List UInt8) : listS c p = listS s p := by
  unfold listS
  rw [findS_files h, h]
theorem SameS.does {s c : St} (h : SameS s c) (a : ActS) : SameS (doesS s a).1 (doesS c a).1 := by
  have ef := fun p => findS_files h.fi p
  have eh : ∀ q, homeS c q = homeS s q := fun q => by unfold homeS; rw [h.fi]
  unfold doesS
  split
  · exact h.write _ _
  split
  · unfold appendS; rw [ef]; exact h.write _ _
  split
  · unfold readS
    rw [ef]
    split
    · exact h
    split
    · exact h
    · exact h.note _ _ _ _
  split
  · unfold removeS
    rw [ef, listS_files h.fi]
    split
    · exact h
    split
    · split
      · exact h
      · exact (h.drop _).tick
    · exact ((h.note _ _ _ _).drop _).tick
  split
  · unfold moveS
    rw [ef, ef, eh]
    split
    · exact h
    split
    · exact h
    split
    · exact h
    split
    · exact h
    split
    · exact h.tick
    · exact (((h.drop _).put _ _).note _ _ _ _).note _ _ _ _
  split
  · unfold mkdirS
    rw [ef, eh, h.fi]
    split
    · exact h
    split
    · exact h
    split
    · exact h
    split
    · exact h
    · exact h.put _ _
  split
  · unfold touchS
    rw [ef]
    split
    · exact h.put _ _
    · exact h.write _ _
  split
  · unfold laterS
    rw [h.ck]
    split
    · exact ⟨h.fi, h.us, by show _ = _; rfl, h.rm⟩
    · exact h
  split
  · exact ⟨h.fi, h.us, h.ck, h.rm⟩
  · exact h
theorem SameS.run {s c : St} (h : SameS s c) : ∀ l : List ActS, SameS (runA s l) (runA c l) := by
  intro l
  induction l generalizing s c with
  | nil => exact h
  | cons a l ih => exact ih (h.does a)
theorem write_put {s : St} {p t : List UInt8} (h : (writeS s p t).2 = 0) : ∃ q, whereL p = some q ∧ (writeS s p t).1.files = mput s.files q ⟨t, s.clock + 1, false⟩ ∧ (writeS s p t).1.clock = s.clock + 1 := by
  unfold writeS at h ⊢
  split at h
  · rename_i c; exact absurd h c.1
  split at h
  · cases h
  split at h
  · rename_i c; exact absurd h c
  split at h
  · cases h
  split at h
  · cases h
  rename_i h1 h2 h3 h4 h5
  rw [if_neg h1, if_neg h2, if_neg h3, if_neg h4, if_neg h5]
  have hw : whereL p = some (findS s p).1 := find_where (fun e => h1 ⟨by omega, by omega⟩)
  exact ⟨_, hw, (noteS_clock _ _ _).2.1, (noteS_clock _ _ _).1⟩
theorem touch_put {s : St} {p : List UInt8} (h : (touchS s p).2 = 0) : ∃ q t d, whereL p = some q ∧ (touchS s p).1.files = mput s.files q ⟨t, s.clock + 1, d⟩ := by
  unfold touchS at h ⊢
  split at h
  · rename_i hd
    rw [if_pos hd]
    have hw : whereL p = some (findS s p).1 := by
      rcases findS_e s p with ⟨_, e, _⟩ | ⟨_, _, _, e⟩ | ⟨_, _, e⟩
      · rw [e] at hd; cases hd
      · exact e
      · exact e
    exact ⟨_, _, _, hw, rfl⟩
  · rename_i hd
    rw [if_neg hd]
    obtain ⟨q, h1, h2, _⟩ := write_put h
    exact ⟨q, _, _, h1, h2⟩
theorem put_young {s s' : St} {k : Int} (hO : OkS s k) {p q q0 t : List UInt8} {d : Bool} (hw : whereL p = some q0) (hf : s'.files = mput s.files q0 ⟨t, s.clock + 1, d⟩) (hq : whereL q = some q) (hne : q ≠ q0) :
    (findS s' q).2.1.time < (findS s' p).2.1.time := by
  have h1 : (findS s' p).2.1.time = s.clock + 1 := by
    unfold findS
    rw [hw]
    simp only
    rw [hf, mget_put, if_pos rfl]
  rw [h1]
  unfold findS
  rw [hq]
  simp only
  rw [hf, mget_put, if_neg hne]
  have hc := hO.good.clock
  cases hm : mget s.files q with
  | none => show (0 : Int) < _; omega
  | some f => have := (hO.good.time _ (mget_mem hm)).2; show f.time < _; simp only at this; omega
theorem does_young {s : St} {k : Int} (hO : OkS s k) (hk : 0 ≤ k) (a : ActS) (hp : a.p.length ≤ 130000) (hq : a.q.length ≤ 130000) (he : (doesS s a).2 = 0) (hd : a.kind % 10 = 0 ∨ a.kind % 10 = 1 ∨ a.kind % 10 = 6) {q : List UInt8} (hm : q ∈ allS (doesS s a).1) (hne : q ≠ whereQ a.p) :
    (findS (doesS s a).1 q).2.1.time < (findS (doesS s a).1 a.p).2.1.time := by
  have hO2 := (doesS_goes hO hk a hp hq).ok
  obtain ⟨f, hf, _⟩ := allS_mem hm
  have hc := hO2.canon _ hf
  have key : ∃ q0 t d, whereL a.p = some q0 ∧ (doesS s a).1.files = mput s.files q0 ⟨t, s.clock + 1, d⟩ := by
    unfold doesS at he ⊢
    rcases hd with hd | hd | hd
    · rw [if_pos hd] at he ⊢
      obtain ⟨q0, h1, h2, _⟩ := write_put he
      exact ⟨q0, _, _, h1, h2⟩
    · rw [if_neg (by omega), if_pos hd] at he ⊢
      obtain ⟨q0, h1, h2, _⟩ := write_put he
      exact ⟨q0, _, _, h1, h2⟩
    · rw [if_neg (by omega), if_neg (by omega), if_neg (by omega), if_neg (by omega), if_neg (by omega), if_neg (by omega), if_pos hd] at he ⊢
      exact touch_put he
  obtain ⟨q0, t, d, h1, h2⟩ := key
  have e : whereQ a.p = q0 := by unfold whereQ; rw [h1]; rfl
  rw [e] at hne
  exact put_young hO h1 h2 hc hne
end Go.Proofs.YtjhcabjlhnhkbaaDoor
