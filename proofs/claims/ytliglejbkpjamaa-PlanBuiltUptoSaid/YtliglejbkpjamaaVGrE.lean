/-
  Layer 16 (graph): Of, plainly.
-/
/-
  Layer 16 (graph): a table of rules is right.
-/
import Derived.Test.YtliglejbkpjamaaVGrD
set_option linter.unusedVariables false
set_option linter.unusedSimpArgs false
section
set_option maxRecDepth 20000
namespace Go.Proofs.Ytliglejbkpjamaa
open Go.RowKit

def sufN : ByteArray := ⟨#[46, 83, 85, 70, 70, 73, 88, 69, 83]⟩
def addSuf (t : List ByteArray) (s : ByteArray) : List ByteArray := if s ≠ ⟨#[]⟩ ∧ t.length < 64 ∧ mem t s = false then t ++ [s] else t
def ofSuf1 (t : List ByteArray) (r : RuleS) : List ByteArray := if singleB r = sufN then r.src.foldl addSuf (if r.src.length = 0 then [] else t) else t
/-- The suffixes of a table. -/
def ofSuf (l : List RuleS) : List ByteArray := l.foldl ofSuf1 []
def ofWay1 (suf : List ByteArray) (t : List (ByteArray × ByteArray)) (r : RuleS) : List (ByteArray × ByteArray) :=
  if (sufx (singleB r) suf suf).2.2 = true ∧ 0 < r.cmd.length ∧ (sufx (singleB r) suf suf).2.1 ≠ ⟨#[]⟩ ∧ (sufx (singleB r) suf suf).1 ≠ (sufx (singleB r) suf suf).2.1 ∧ t.length < 256 ∧ memP t ((sufx (singleB r) suf suf).1, (sufx (singleB r) suf suf).2.1) = false
  then t ++ [((sufx (singleB r) suf suf).1, (sufx (singleB r) suf suf).2.1)] else t
/-- Its ways. -/
def ofWays (l : List RuleS) : List (ByteArray × ByteArray) := l.foldl (ofWay1 (ofSuf l)) []
theorem foldl_snoc {α β : Type} (f : β → α → β) (z : β) (l : List α) (k : Nat) (h : k < l.length) : (l.take (k + 1)).foldl f z = f ((l.take k).foldl f z) l[k] := by
  rw [List.take_succ_eq_append_getElem h, List.foldl_append]; rfl
theorem addSuf_good (t : List ByteArray) (s : ByteArray) (h : t.Nodup ∧ t.length ≤ 64 ∧ ∀ x, x ∈ t → x ≠ ⟨#[]⟩) : (addSuf t s).Nodup ∧ (addSuf t s).length ≤ 64 ∧ ∀ x, x ∈ addSuf t s → x ≠ ⟨#[]⟩ := by
  obtain ⟨h1, h2, h3⟩ := h
  unfold addSuf
  split
  · rename_i hc
    obtain ⟨c1, c2, c3⟩ := hc
    refine ⟨?_, by rw [List.length_append, List.length_singleton]; omega, fun x hx => ?_⟩
    · rw [List.nodup_append]
      refine ⟨h1, by simp, fun a ha b hb e => ?_⟩
      simp at hb
      exact (mem_false t s).1 c3 (by rw [← hb, ← e]; exact ha)
    · rcases List.mem_append.1 hx with hx | hx
      · exact h3 x hx
      · simp at hx; rw [hx]; exact c1
  · exact ⟨h1, h2, h3⟩
theorem foldl_inv {α β : Type} (P : β → Prop) (f : β → α → β) (hf : ∀ b a, P b → P (f b a)) : ∀ (l : List α) (b : β), P b → P (l.foldl f b)
  | [], b, h => h
  | a :: l, b, h => foldl_inv P f hf l (f b a) (hf b a h)
theorem ofSuf_good (l : List RuleS) : (ofSuf l).Nodup ∧ (ofSuf l).length ≤ 64 ∧ ∀ x, x ∈ ofSuf l → x ≠ ⟨#[]⟩ := by
  refine foldl_inv (fun t : List ByteArray => t.Nodup ∧ t.length ≤ 64 ∧ ∀ x, x ∈ t → x ≠ ⟨#[]⟩) ofSuf1 (fun t r h => ?_) l [] ⟨by simp, by simp, by simp⟩
  unfold ofSuf1
  split
  · refine foldl_inv (fun t : List ByteArray => t.Nodup ∧ t.length ≤ 64 ∧ ∀ x, x ∈ t → x ≠ ⟨#[]⟩) addSuf (fun t s h => addSuf_good t s h) r.src _ ?_
    split
    · exact ⟨by simp, by simp, by simp⟩
    · exact h
  · exact h
set_option maxHeartbeats 1000000 in
theorem indexP_calls (V : Value) (l : List (ByteArray × ByteArray)) (x : ByteArray × ByteArray) (w : World) (hV : Prs w V l) :
    Calls Try.prog 61 #[V, .agg #[.string x.1, .string x.2]] w fun e w' => (∃ i : Int, e = .returned (.int .i64 i) ∧ decide (0 ≤ i) = memP l x) ∧ Mem none_ w [] w' := by
  obtain ⟨A, c, rfl, h1, h2, h3, h4⟩ := hV
  unfold maxLen at h2
  have HM0 := (Mem.start (fp := none_) w).box #[.string x.1, .string x.2] 93
  go_enter Try.func61, Try.ntmps61
  go_wp2
  go_loopw [8] (fun i wr => ∃ k : Nat, k ≤ l.length ∧ i = .int .i64 k ∧ Hid (∀ j, j < k → l[j]? ≠ some x) ∧ Mem none_ w [Blk w.heap.size 93 #[.string x.1, .string x.2]] wr) (fun i _ => l.length - (intOf i).toNat)
  case atStart => exact ⟨0, Nat.zero_le _, rfl, fun j hj => by omega, HM0⟩
  case round =>
    clear HM0
    obtain ⟨k, hk, rfl, hno, HM⟩ := hrel
    by_cases hlt : k < l.length
    · obtain ⟨b, o, rfl, hcells⟩ := h4.resolve_left (by omega)
      clear h4
      have hx0 : wr.cell? ⟨b, o + k * 2, none⟩ = some (.string l[k].1) := HM.mu.cell (hcells _ _ (prs_get0 hlt)) (fun h => h)
      have hx1 : wr.cell? ⟨b, o + k * 2 + 1, none⟩ = some (.string l[k].2) := HM.mu.cell (hcells _ _ (prs_get1 hlt)) (fun h => h)
      clear hcells
      have hb0 : wr.cell? ⟨w.heap.size, 0, none⟩ = some (.string x.1) := Blk.cell HM.head 0
      have hb1 : wr.cell? ⟨w.heap.size, 1, none⟩ = some (.string x.2) := Blk.cell HM.head 1
      by_cases he : x = l[k]
      · have HR : Hid (memP l x = true) := (memP_iff l x).2 (he ▸ List.getElem_mem hlt)
        have hq : ∀ W, (binOp .eql 93 (.agg #[.string x.1, .string x.2]) (.agg #[.string l[k].1, .string l[k].2])).run Try.prog W = .ok (.bool true) W := fun W => by rw [eql_pair, decide_eq_true he]
        clear he
        go_wp2
        go_quiet (fail)
        go_wp2
        go_ret
        exact ⟨⟨_, rfl, by rw [HR.out]; exact decide_eq_true (by omega)⟩, (HM.drewN _).sel [] (by decide)⟩
      · have hq : ∀ W, (binOp .eql 93 (.agg #[.string x.1, .string x.2]) (.agg #[.string l[k].1, .string l[k].2])).run Try.prog W = .ok (.bool false) W := fun W => by rw [eql_pair, decide_eq_false he]
        have hno2 : Hid (∀ j, j < k + 1 → l[j]? ≠ some x) := by
          intro j hj
          by_cases hjk : j = k
          · subst hjk; rw [List.getElem?_eq_getElem hlt]; intro e; exact he (Option.some.inj e).symm
          · exact hno.out j (by omega)
        clear he
        go_wp2
        go_quiet (fail)
        go_wp2
        go_roundw
        case rel => exact ⟨k + 1, by omega, by go_num, hno2, HM.drewN _⟩
        case measure => simp [intOf]; omega
    · have HR : Hid (memP l x = false) := memP_end (fun j hj => hno.out j (by omega))
      go_wp2
      go_ret
      exact ⟨⟨_, rfl, by rw [HR.out]; rfl⟩, HM.sel [] (by decide)⟩
set_option maxHeartbeats 1000000 in
theorem containsP_calls (V : Value) (l : List (ByteArray × ByteArray)) (x : ByteArray × ByteArray) (w : World) (hV : Prs w V l) :
    Calls Try.prog 43 #[V, .agg #[.string x.1, .string x.2]] w fun e w' => e = .returned (.bool (memP l x)) ∧ Mem none_ w [] w' := by
  have HM0 := (Mem.start (fp := none_) w).box #[.string x.1, .string x.2] 93
  have hI := indexP_calls V l x _ (hV.pure HM0.mu)
  obtain ⟨A, c, rfl, h1, h2, h3, h4⟩ := hV
  have hb0 := Blk.cell HM0.head 0
  have hb1 := Blk.cell HM0.head 1
  simp only [List.getElem?_toArray, List.getElem?_cons_succ, List.getElem?_cons_zero] at hb0 hb1
  have HM1 := Lib.hid (HM0.sel [] (by decide))
  clear HM0 h3 h4
  go_enter Try.func43, Try.ntmps43
  go_wp2_with (go_at_call 61; refine hI.mono ?_; clear hI; rintro e w1 ⟨⟨i, rfl, hi⟩, hm⟩; have hm := Lib.hid hm; have hi2 := Lib.hid hi; clear hi)
  go_ret
  exact ⟨ret_bool hi2.out, Mem.call (cs := []) (ds := []) HM1.out hm.out (fun b _ hb => hb.elim) (fun b hb => hb.elim)⟩
end Go.Proofs.Ytliglejbkpjamaa
end
section
set_option maxRecDepth 20000
namespace Go.Proofs.Ytliglejbkpjamaa
open Go.RowKit

theorem sufRun_ok : ∀ (l : List ByteArray) (m : List (ByteArray × Unit)), (∀ x, x ∈ l → x ≠ ⟨#[]⟩) → l.Nodup → (∀ x, x ∈ l → mhas m x = false) → ∃ met, sufRun m l = some met ∧ ∀ x, x ∈ l ∨ mhas m x = true → mhas met x = true
  | [], m, _, _, _ => ⟨m, rfl, fun x h => h.resolve_left (by simp)⟩
  | s :: l, m, h1, h2, h3 => by
    obtain ⟨n1, n2⟩ := List.nodup_cons.1 h2
    have e1 : s.toList.isEmpty = false := by
      cases h : s.toList.isEmpty
      · rfl
      · exact absurd (List.isEmpty_iff.1 h) (neE (h1 s (by simp))).2.1
    have e2 : mhas m s = false := h3 s (by simp)
    have hp : ∀ x, mhas (mput m s ()) x = (decide (x = s) || mhas m x) := fun x => by
      unfold mhas
      rw [mget_put]
      by_cases hx : x = s
      · rw [if_pos hx]; simp [hx]
      · rw [if_neg hx]; simp [hx]
    obtain ⟨met, a, b⟩ := sufRun_ok l (mput m s ()) (fun x hx => h1 x (by simp [hx])) n2 (fun x hx => by
      rw [hp, h3 x (by simp [hx]), decide_eq_false (p := x = s) (fun e => n1 (by rw [← e]; exact hx))]; rfl)
    refine ⟨met, ?_, fun x hx => b x ?_⟩
    · unfold sufRun; rw [e1, e2]; exact a
    · rw [hp]
      rcases hx with hx | hx
      · rcases List.mem_cons.1 hx with e | hx
        · exact .inr (by simp [e])
        · exact .inl hx
      · exact .inr (by simp [hx])
theorem wayRun_ok (met : List (ByteArray × Unit)) : ∀ (l : List (ByteArray × ByteArray)) (m : List ((ByteArray × ByteArray) × Unit)), (∀ p, p ∈ l → p.1 ≠ p.2 ∧ mhas met p.1 = true ∧ mhas met p.2 = true) → l.Nodup → (∀ x, x ∈ l → mhas m x = false) → wayRun met m l = true
  | [], m, _, _, _ => rfl
  | p :: l, m, h1, h2, h3 => by
    obtain ⟨n1, n2⟩ := List.nodup_cons.1 h2
    obtain ⟨a, b, c⟩ := h1 p (by simp)
    have e1 : (p.1.toList == p.2.toList) = false := by rw [strEq]; exact decide_eq_false a
    have hr := wayRun_ok met l (mput m p ()) (fun x hx => h1 x (by simp [hx])) n2 (fun x hx => by
      unfold mhas
      rw [mget_put, if_neg (fun e => n1 (by rw [← e]; exact hx))]
      exact h3 x (by simp [hx]))
    unfold wayRun
    rw [e1, b, c, h3 p (by simp)]
    exact hr
theorem right_ok (s : List ByteArray) (ways : List (ByteArray × ByteArray)) (h1 : s.Nodup) (h2 : s.length ≤ 64) (h3 : ∀ x, x ∈ s → x ≠ ⟨#[]⟩) (h4 : ways.Nodup) (h5 : ways.length ≤ 256)
    (h6 : ∀ p, p ∈ ways → p.1 ≠ p.2 ∧ p.1 ∈ s ∧ p.2 ∈ s) : rightOf s ways = true := by
  obtain ⟨met, e, hm⟩ := sufRun_ok s [] h3 h1 (fun x hx => rfl)
  unfold rightOf
  rw [if_neg (by omega), if_neg (by omega), e]
  exact wayRun_ok met ways [] (fun p hp => ⟨(h6 p hp).1, hm _ (.inl (h6 p hp).2.1), hm _ (.inl (h6 p hp).2.2)⟩) h4 (fun x hx => rfl)
theorem sufx_in (name : ByteArray) (all : List ByteArray) : ∀ (l : List ByteArray), (∀ x, x ∈ l → x ∈ all) → (sufx name all l).2.1 ≠ ⟨#[]⟩ → (sufx name all l).1 ∈ all ∧ (sufx name all l).2.1 ∈ all
  | [], _, h => by
    unfold sufx at h
    split at h <;> exact absurd rfl h
  | s :: l, hl, h => by
    unfold sufx at h ⊢
    split at h
    · rename_i hc
      rw [if_pos hc]
      exact ⟨hl s (by simp), (mem_iff _ _).1 hc.2.2.2⟩
    · rename_i hc
      rw [if_neg hc]
      exact sufx_in name all l (fun x hx => hl x (by simp [hx])) h
theorem ofWay1_good (suf : List ByteArray) (t : List (ByteArray × ByteArray)) (r : RuleS) (h : t.Nodup ∧ t.length ≤ 256 ∧ ∀ p, p ∈ t → p.1 ≠ p.2 ∧ p.1 ∈ suf ∧ p.2 ∈ suf) :
    (ofWay1 suf t r).Nodup ∧ (ofWay1 suf t r).length ≤ 256 ∧ ∀ p, p ∈ ofWay1 suf t r → p.1 ≠ p.2 ∧ p.1 ∈ suf ∧ p.2 ∈ suf := by
  obtain ⟨h1, h2, h3⟩ := h
  unfold ofWay1
  have hin := sufx_in (singleB r) suf suf (fun _ h => h)
  generalize sufx (singleB r) suf suf = q at *
  split
  · rename_i hc
    obtain ⟨c1, c2, c3, c4, c5, c6⟩ := hc
    refine ⟨?_, by rw [List.length_append, List.length_singleton]; omega, fun p hp => ?_⟩
    · rw [List.nodup_append]
      refine ⟨h1, by simp, fun a ha b hb e => ?_⟩
      simp only [List.mem_singleton] at hb
      have := (memP_iff t (q.1, q.2.1)).2 (by rw [← hb, ← e]; exact ha)
      rw [c6] at this; cases this
    · rcases List.mem_append.1 hp with hp | hp
      · exact h3 p hp
      · simp only [List.mem_singleton] at hp; rw [hp]; exact ⟨c4, hin c3⟩
  · exact ⟨h1, h2, h3⟩
theorem of_right (l : List RuleS) : rightOf (ofSuf l) (ofWays l) = true := by
  obtain ⟨a, b, c⟩ := ofSuf_good l
  obtain ⟨d, e, f⟩ := foldl_inv (fun t : List (ByteArray × ByteArray) => t.Nodup ∧ t.length ≤ 256 ∧ ∀ p, p ∈ t → p.1 ≠ p.2 ∧ p.1 ∈ ofSuf l ∧ p.2 ∈ ofSuf l) (ofWay1 (ofSuf l)) (fun t r h => ofWay1_good (ofSuf l) t r h) l [] ⟨by simp, by simp, by simp⟩
  exact right_ok _ _ a b c d e f
end Go.Proofs.Ytliglejbkpjamaa
end
