/-
  Layer 18 (stale): plain laws of the stores that a statement makes.
-/
import Derived.Test.YtnpehlkdfbmnkaaDoorRfsE
set_option linter.unusedVariables false
set_option linter.unusedSimpArgs false
set_option maxRecDepth 20000
namespace Go.Proofs.YtnpehlkdfbmnkaaDoor
open Go.RowKit

theorem noteS_keep (s : St) (k : Int) (q : List UInt8) : (noteS s k q).noting = s.noting ∧ (noteS s k q).clock = s.clock := by
  unfold noteS
  split <;> exact ⟨rfl, rfl⟩
theorem writeS_good {s : St} (hG : GoodS s) (p t : List UInt8) (hp : p.length ≤ 150000) :
    GoodS (writeS s p t).1 ∧ s.clock ≤ (writeS s p t).1.clock ∧ (writeS s p t).1.clock ≤ s.clock + 1 ∧ (writeS s p t).1.noting = s.noting := by
  have hE := findS_e s p
  have same : GoodS s ∧ s.clock ≤ s.clock ∧ s.clock ≤ s.clock + 1 ∧ s.noting = s.noting := ⟨hG, Int.le_refl _, by omega, rfl⟩
  unfold writeS
  split
  · exact same
  split
  · exact same
  split
  · exact same
  split
  · exact same
  split
  · exact same
  rename_i h1 h2 h3 h4 h5
  have hq : whereL p = some (findS s p).1 := by
    rcases hE with ⟨e, _, _⟩ | ⟨_, _, _, e⟩ | ⟨_, _, e⟩
    · exact absurd ⟨by omega, by omega⟩ h1
    · exact e
    · exact e
  have hql := whereL_len hq (by omega)
  have hk := noteS_keep (putS s (findS s p).1 ⟨t, 0, false⟩) 2 (findS s p).1
  refine ⟨noteS_good (putS_good hG hql (by show t.length ≤ 65536; omega) (fun h => by cases h) ?_ ?_) _ _, ?_, ?_, ?_⟩
  · rcases hE with ⟨e, _, _⟩ | ⟨e, _, _, _⟩ | ⟨_, e, _⟩
    · exact absurd ⟨by omega, by omega⟩ h1
    · right
      apply Nat.lt_of_not_le
      intro hc
      exact h5 (.inr ⟨e, hc⟩)
    · left; unfold mhas; rw [e]; rfl
  · show s.used - ((txtS s (findS s p).1).length : Int) ≤ s.room - (t.length : Int)
    have ht : txtS s (findS s p).1 = (findS s p).2.1.text := by
      unfold txtS
      rcases hE with ⟨e, _, _⟩ | ⟨_, e, e2, _⟩ | ⟨_, e, _⟩
      · exact absurd ⟨by omega, by omega⟩ h1
      · rw [e2, e]; rfl
      · rw [e]; rfl
    rw [ht]
    have : ¬ s.room - (t.length : Int) < s.used - ((findS s p).2.1.text.length : Int) := fun hc => h5 (.inl hc)
    omega
  · rw [hk.2]; show s.clock ≤ s.clock + 1; omega
  · rw [hk.2]; exact Int.le_refl _
  · rw [hk.1]; rfl

/-- The store of files that are written in order. -/
def runS (s : St) (l : List (List UInt8 × List UInt8)) : St := l.foldl (fun s f => (writeS s f.1 f.2).1) s
theorem runS_good : ∀ {l : List (List UInt8 × List UInt8)} {s : St}, GoodS s → (∀ x, x ∈ l → x.1.length ≤ 150000) → GoodS (runS s l) ∧ (runS s l).clock ≤ s.clock + l.length ∧ (runS s l).noting = s.noting
  | [], s, h, _ => ⟨h, by simp [runS], rfl⟩
  | x :: l, s, h, hl => by
    obtain ⟨a, b, c, d⟩ := writeS_good h x.1 x.2 (hl x (by simp))
    obtain ⟨e, f, g⟩ := runS_good (l := l) a (fun y hy => hl y (by simp [hy]))
    refine ⟨e, ?_, g.trans d⟩
    show (runS (writeS s x.1 x.2).1 l).clock ≤ _
    rw [List.length_cons]
    omega
theorem runS_snoc (s : St) (l : List (List UInt8 × List UInt8)) (k : Nat) (h : k < l.length) : runS s (l.take (k + 1)) = (writeS (runS s (l.take k)) l[k].1 l[k].2).1 := by
  rw [List.take_succ_eq_append_getElem h]
  unfold runS
  rw [List.foldl_append]; rfl
end Go.Proofs.YtnpehlkdfbmnkaaDoor
