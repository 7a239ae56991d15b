/-
  Layer 16 (graph): a table of rules is right.
-/
import Derived.Test.YtliglejbkpjamaaGrE
set_option linter.unusedVariables false
set_option linter.unusedSimpArgs false
set_option maxRecDepth 20000
namespace Go.Proofs.Ytliglejbkpjamaa
open Go.RowKit

theorem sufRun_ok : ∀ (l : List ByteArray) (m : List (ByteArray × Unit)), (∀ x, x ∈ l → x ≠ ⟨#[]⟩) → l.Nodup → (∀ x, x ∈ l → mhas m x = false) → ∃ met, sufRun m l = some met ∧ ∀ x, x ∈ l ∨ mhas m x = true → mhas met x = true
  | [], m, _, _, _ => ⟨m, rfl, fun x h => h.resolve_left (by simp)⟩
  | s :: l, m, h1, h2, h3 => by
    obtain ⟨n1, n2⟩ := List.nodup_cons.1 h2
    have e1 : s.toList.isEmpty = false := by
      cases h : s.toList.isEmpty
      · rfl
      · exact absurd (List.isEmpty_iff.1 h) (neE (h1 s (by simp))).2.1
    have e2 : mhas m s = false := h3 s (by simp)
    have hp : ∀ x, mhas (mput m s ()) x = (decide (x = s) || mhas m x) := fun x => by
      unfold mhas
      rw [mget_put]
      by_cases hx : x = s
      · rw [if_pos hx]; simp [hx]
      · rw [if_neg hx]; simp [hx]
    obtain ⟨met, a, b⟩ := sufRun_ok l (mput m s ()) (fun x hx => h1 x (by simp [hx])) n2 (fun x hx => by
      rw [hp, h3 x (by simp [hx]), decide_eq_false (p := x = s) (fun e => n1 (by rw [← e]; exact hx))]; rfl)
    refine ⟨met, ?_, fun x hx => b x ?_⟩
    · unfold sufRun; rw [e1, e2]; exact a
    · rw [hp]
      rcases hx with hx | hx
      · rcases List.mem_cons.1 hx with e | hx
        · exact .inr (by simp [e])
        · exact .inl hx
      · exact .inr (by simp [hx])
theorem wayRun_ok (met : List (ByteArray × Unit)) : ∀ (l : List (ByteArray × ByteArray)) (m : List ((ByteArray × ByteArray) × Unit)), (∀ p, p ∈ l → p.1 ≠ p.2 ∧ mhas met p.1 = true ∧ mhas met p.2 = true) → l.Nodup → (∀ x, x ∈ l → mhas m x = false) → wayRun met m l = true
  | [], m, _, _, _ => rfl
  | p :: l, m, h1, h2, h3 => by
    obtain ⟨n1, n2⟩ := List.nodup_cons.1 h2
    obtain ⟨a, b, c⟩ := h1 p (by simp)
    have e1 : (p.1.toList == p.2.toList) = false := by rw [strEq]; exact decide_eq_false a
    have hr := wayRun_ok met l (mput m p ()) (fun x hx => h1 x (by simp [hx])) n2 (fun x hx => by
      unfold mhas
      rw [mget_put, if_neg (fun e => n1 (by rw [← e]; exact hx))]
      exact h3 x (by simp [hx]))
    unfold wayRun
    rw [e1, b, c, h3 p (by simp)]
    exact hr
theorem right_ok (s : List ByteArray) (ways : List (ByteArray × ByteArray)) (h1 : s.Nodup) (h2 : s.length ≤ 64) (h3 : ∀ x, x ∈ s → x ≠ ⟨#[]⟩) (h4 : ways.Nodup) (h5 : ways.length ≤ 256)
    (h6 : ∀ p, p ∈ ways → p.1 ≠ p.2 ∧ p.1 ∈ s ∧ p.2 ∈ s) : rightOf s ways = true := by
  obtain ⟨met, e, hm⟩ := sufRun_ok s [] h3 h1 (fun x hx => rfl)
  unfold rightOf
  rw [if_neg (by omega), if_neg (by omega), e]
  exact wayRun_ok met ways [] (fun p hp => ⟨(h6 p hp).1, hm _ (.inl (h6 p hp).2.1), hm _ (.inl (h6 p hp).2.2)⟩) h4 (fun x hx => rfl)
theorem sufx_in (name : ByteArray) (all : List ByteArray) : ∀ (l : List ByteArray), (∀ x, x ∈ l → x ∈ all) → (sufx name all l).2.1 ≠ ⟨#[]⟩ → (sufx name all l).1 ∈ all ∧ (sufx name all l).2.1 ∈ all
  | [], _, h => by
    unfold sufx at h
    split at h <;> exact absurd rfl h
  | s :: l, hl, h => by
    unfold sufx at h ⊢
    split at h
    · rename_i hc
      rw [if_pos hc]
      exact ⟨hl s (by simp), (mem_iff _ _).1 hc.2.2.2⟩
    · rename_i hc
      rw [if_neg hc]
      exact sufx_in name all l (fun x hx => hl x (by simp [hx])) h
theorem ofWay1_good (suf : List ByteArray) (t : List (ByteArray × ByteArray)) (r : RuleS) (h : t.Nodup ∧ t.length ≤ 256 ∧ ∀ p, p ∈ t → p.1 ≠ p.2 ∧ p.1 ∈ suf ∧ p.2 ∈ suf) :
    (ofWay1 suf t r).Nodup ∧ (ofWay1 suf t r).length ≤ 256 ∧ ∀ p, p ∈ ofWay1 suf t r → p.1 ≠ p.2 ∧ p.1 ∈ suf ∧ p.2 ∈ suf := by
  obtain ⟨h1, h2, h3⟩ := h
  unfold ofWay1
  have hin := sufx_in (singleB r) suf suf (fun _ h => h)
  generalize sufx (singleB r) suf suf = q at *
  split
  · rename_i hc
    obtain ⟨c1, c2, c3, c4, c5, c6⟩ := hc
    refine ⟨?_, by rw [List.length_append, List.length_singleton]; omega, fun p hp => ?_⟩
    · rw [List.nodup_append]
      refine ⟨h1, by simp, fun a ha b hb e => ?_⟩
      simp only [List.mem_singleton] at hb
      have := (memP_iff t (q.1, q.2.1)).2 (by rw [← hb, ← e]; exact ha)
      rw [c6] at this; cases this
    · rcases List.mem_append.1 hp with hp | hp
      · exact h3 p hp
      · simp only [List.mem_singleton] at hp; rw [hp]; exact ⟨c4, hin c3⟩
  · exact ⟨h1, h2, h3⟩
theorem of_right (l : List RuleS) : rightOf (ofSuf l) (ofWays l) = true := by
  obtain ⟨a, b, c⟩ := ofSuf_good l
  obtain ⟨d, e, f⟩ := foldl_inv (fun t : List (ByteArray × ByteArray) => t.Nodup ∧ t.length ≤ 256 ∧ ∀ p, p ∈ t → p.1 ≠ p.2 ∧ p.1 ∈ ofSuf l ∧ p.2 ∈ ofSuf l) (ofWay1 (ofSuf l)) (fun t r h => ofWay1_good (ofSuf l) t r h) l [] ⟨by simp, by simp, by simp⟩
  exact right_ok _ _ a b c d e f
end Go.Proofs.Ytliglejbkpjamaa
