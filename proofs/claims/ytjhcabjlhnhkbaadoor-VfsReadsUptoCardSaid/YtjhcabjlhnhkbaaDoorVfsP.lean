/-
  The store, plainly: what each call answers and what stands behind it; the code's store and the document's are both held against this one.
-/
import Derived.Test.YtjhcabjlhnhkbaaDoorPthD
import Derived.Test.YtjhcabjlhnhkbaaDoorMaps
set_option linter.unusedVariables false
set_option linter.unusedSimpArgs false
namespace Go.Proofs.YtjhcabjlhnhkbaaDoor

/-- A file, or a directory. -/
structure VF where
  text : List UInt8
  time : Int
  dir : Bool
deriving DecidableEq
def VF.zero : VF := ⟨[], 0, false⟩
/-- A store. -/
structure St where
  room : Int
  used : Int
  clock : Int
  files : List (List UInt8 × VF)
  noting : Bool
  notes : List (Int × List UInt8)

abbrev rootS : List UInt8 := [47]
def newS (room : Int) : St := ⟨room, 0, 0, [(rootS, ⟨[], 0, true⟩)], false, []⟩
def whereL (p : List UInt8) : Option (List UInt8) :=
  if (partsL (cleanL (47 :: p))).all (fun x => decide (x.length ≤ 255)) then some (cleanL (47 :: p)) else none
def whereQ (p : List UInt8) : List UInt8 := (whereL p).getD []
def whereE (p : List UInt8) : Int := if (whereL p).isSome = true then 0 else 1
def findS (s : St) (p : List UInt8) : List UInt8 × VF × Nat :=
  match whereL p with
  | none => ([], VF.zero, 1)
  | some q => match mget s.files q with
    | none => (q, VF.zero, 6)
    | some f => (q, f, 0)
def homeS (s : St) (q : List UInt8) : Nat := match mget s.files (dirL q) with | none => 6 | some f => if f.dir then 0 else 8
def txtS (s : St) (q : List UInt8) : List UInt8 := ((mget s.files q).getD VF.zero).text
def putS (s : St) (q : List UInt8) (f : VF) : St :=
  { s with clock := s.clock + 1, used := s.used + ((f.text.length : Int) - ((txtS s q).length : Int)), files := mput s.files q ⟨f.text, s.clock + 1, f.dir⟩ }
def noteS (s : St) (k : Int) (q : List UInt8) : St := if s.noting = true ∧ s.notes.length < 4096 then { s with notes := s.notes ++ [(k, q)] } else s
def writeS (s : St) (p t : List UInt8) : St × Nat :=
  if (findS s p).2.2 ≠ 0 ∧ (findS s p).2.2 ≠ 6 then (s, (findS s p).2.2)
  else if (findS s p).2.1.dir = true then (s, 8)
  else if homeS s (findS s p).1 ≠ 0 then (s, homeS s (findS s p).1)
  else if 65536 < t.length then (s, 5)
  else if s.room - (t.length : Int) < s.used - ((findS s p).2.1.text.length : Int) ∨ ((findS s p).2.2 = 6 ∧ 512 ≤ s.files.length) then (s, 9)
  else (noteS (putS s (findS s p).1 ⟨t, 0, false⟩) 2 (findS s p).1, 0)
def statS (s : St) (p : List UInt8) : Int × Bool × Nat := ((findS s p).2.1.time, (findS s p).2.1.dir, (findS s p).2.2)
def touchS (s : St) (p : List UInt8) : St × Nat :=
  if (findS s p).2.1.dir = true then (putS s (findS s p).1 (findS s p).2.1, 0) else writeS s p (findS s p).2.1.text
def notesS (s : St) (b : Bool) : St × List (Int × List UInt8) := ({ s with notes := [], noting := b }, s.notes)

def sumT (l : List (List UInt8 × VF)) : Nat := (l.map (fun x => x.2.text.length)).sum
/-- What holds of every store. -/
structure GoodS (s : St) : Prop where
  room0 : 0 ≤ s.room
  room1 : s.room ≤ 1048576
  used : s.used = (sumT s.files : Int)
  fits : s.used ≤ s.room
  keys : (s.files.map (·.1)).Nodup
  len : s.files.length ≤ 512
  clock : 0 ≤ s.clock
  notes : s.notes.length ≤ 4096
  text : ∀ x, x ∈ s.files → x.2.text.length ≤ 65536 ∧ (x.2.dir = true → x.2.text = [])
  time : ∀ x, x ∈ s.files → 0 ≤ x.2.time ∧ x.2.time ≤ s.clock
  path : ∀ x, x ∈ s.files → x.1.length ≤ 1100003

theorem mget_mem {m : List (List UInt8 × VF)} {k : List UInt8} {v : VF} (h : mget m k = some v) : (k, v) ∈ m := by
  induction m with
  | nil => cases h
  | cons p m ih =>
    rw [mget_cons] at h
    split at h
    · rename_i e
      cases h; subst e; simp
    · exact List.mem_cons_of_mem _ (ih h)
theorem mput_mem {m : List (List UInt8 × VF)} {k : List UInt8} {v : VF} {x : List UInt8 × VF} (h : x ∈ mput m k v) : x = (k, v) ∨ x ∈ m := by
  induction m with
  | nil => rw [mput_nil] at h; simp at h; exact .inl h
  | cons p m ih =>
    rw [mput_cons] at h
    split at h
    · rcases List.mem_cons.1 h with h | h
      · exact .inl h
      · exact .inr (by simp [h])
    · rcases List.mem_cons.1 h with h | h
      · exact .inr (by simp [h])
      · exact (ih h).imp id (fun h => by simp [h])
theorem mput_keys (m : List (List UInt8 × VF)) (k : List UInt8) (v : VF) : (mput m k v).map (·.1) = if mhas m k then m.map (·.1) else m.map (·.1) ++ [k] := by
  induction m with
  | nil => rfl
  | cons p m ih =>
    rw [mput_cons]
    unfold mhas
    rw [mget_cons]
    by_cases h : k = p.1
    · simp [h]
    · rw [if_neg h, if_neg h, List.map_cons, ih]
      unfold mhas
      split <;> simp
theorem mhas_mem {m : List (List UInt8 × VF)} {k : List UInt8} (h : mhas m k = false) : k ∉ m.map (·.1) := by
  induction m with
  | nil => simp
  | cons p m ih =>
    unfold mhas at h
    rw [mget_cons] at h
    by_cases e : k = p.1
    · simp [e] at h
    · rw [if_neg e] at h
      simp only [List.map_cons, List.mem_cons, not_or]
      exact ⟨e, ih h⟩
theorem mput_nodup {m : List (List UInt8 × VF)} (h : (m.map (·.1)).Nodup) (k : List UInt8) (v : VF) : ((mput m k v).map (·.1)).Nodup := by
  rw [mput_keys]
  split
  · exact h
  · rename_i e
    have := mhas_mem (m := m) (k := k) (by simpa using e)
    rw [List.nodup_append]
    refine ⟨h, by simp, fun a ha b hb => ?_⟩
    simp at hb; subst hb
    intro e2; subst e2; exact this ha
theorem sum_put {m : List (List UInt8 × VF)} (k : List UInt8) (v : VF) : (sumT (mput m k v) : Int) = sumT m + ((v.text.length : Int) - (((mget m k).getD VF.zero).text.length : Int)) := by
  induction m with
  | nil => simp [mput_nil, mget_nil, sumT, VF.zero]
  | cons p m ih =>
    rw [mput_cons, mget_cons]
    by_cases h : k = p.1
    · rw [if_pos h, if_pos h]
      simp only [sumT, List.map_cons, List.sum_cons, Option.getD_some]
      omega
    · rw [if_neg h, if_neg h]
      simp only [sumT, List.map_cons, List.sum_cons] at ih ⊢
      omega
theorem sum_ge {m : List (List UInt8 × VF)} {k : List UInt8} {v : VF} (h : mget m k = some v) : v.text.length ≤ sumT m := by
  induction m with
  | nil => cases h
  | cons p m ih =>
    rw [mget_cons] at h
    simp only [sumT, List.map_cons, List.sum_cons]
    split at h
    · cases h; omega
    · have := ih h; simp only [sumT] at this; omega

theorem newS_good {room : Int} (h0 : 0 ≤ room) (h1 : room ≤ 1048576) : GoodS (newS room) := by
  refine ⟨h0, h1, rfl, h0, by simp [newS], by simp [newS], Int.le_refl _, by simp [newS], ?_, ?_, ?_⟩ <;>
  · intro x hx
    simp [newS] at hx
    subst hx
    simp [newS]
theorem noteS_good {s : St} (h : GoodS s) (k : Int) (q : List UInt8) : GoodS (noteS s k q) := by
  unfold noteS
  split
  · rename_i hn
    exact ⟨h.room0, h.room1, h.used, h.fits, h.keys, h.len, h.clock, by simp; omega, h.text, h.time, h.path⟩
  · exact h
theorem putS_good {s : St} (h : GoodS s) {q : List UInt8} {f : VF} (hq : q.length ≤ 1100003) (ht : f.text.length ≤ 65536) (hd : f.dir = true → f.text = []) (hl : mhas s.files q = true ∨ s.files.length < 512)
    (hf : s.used - ((txtS s q).length : Int) ≤ s.room - (f.text.length : Int)) : GoodS (putS s q f) := by
  unfold putS
  have hc := h.clock
  refine ⟨h.room0, h.room1, ?_, ?_, mput_nodup h.keys _ _, ?_, ?_, h.notes, ?_, ?_, ?_⟩
  · show s.used + _ = _
    rw [sum_put, h.used]; rfl
  · show s.used + _ ≤ s.room
    omega
  · show (mput s.files q _).length ≤ 512
    rw [mput_length]
    have := h.len
    rcases hl with hl | hl
    · rw [if_pos hl]; exact this
    · split <;> omega
  · show 0 ≤ s.clock + 1
    omega
  · intro x hx
    rcases mput_mem hx with rfl | hx
    · exact ⟨ht, hd⟩
    · exact h.text x hx
  · intro x hx
    show _ ∧ _ ≤ s.clock + 1
    rcases mput_mem hx with rfl | hx
    · exact ⟨by show 0 ≤ s.clock + 1; omega, Int.le_refl _⟩
    · have := h.time x hx; omega
  · intro x hx
    rcases mput_mem hx with rfl | hx
    · exact hq
    · exact h.path x hx
theorem whereL_len {p q : List UInt8} (h : whereL p = some q) (hp : p.length ≤ 1100000) : q.length ≤ 1100003 := by
  unfold whereL at h
  split at h
  · cases h
    have := clean_len (47 :: p)
    rw [List.length_cons] at this
    omega
  · cases h
end Go.Proofs.YtjhcabjlhnhkbaaDoor
