/-
  Layer 16 (graph): rules as they read; Class, single, Has.
-/
import Derived.Test.YtliglejbkpjamaaSuffE
import Derived.Test.YtliglejbkpjamaaSuffI
import Derived.Test.YtliglejbkpjamaaFork
import Derived.Test.YtliglejbkpjamaaApp
import Derived.Test.YtliglejbkpjamaaMapR
import Derived.Test.YtliglejbkpjamaaPthSh
set_option linter.unusedVariables false
set_option linter.unusedSimpArgs false
set_option maxRecDepth 20000
namespace Go.Proofs.Ytliglejbkpjamaa
open Go.RowKit

/-- A rule. -/
structure RuleS where
  tg : List ByteArray
  kind : Int
  src : List ByteArray
  cmd : List ByteArray
  at_ : Int
/-- Cells that read as a rule. -/
def RuleR (w : World) (r : RuleS) (cs : List Value) : Prop := ∃ TV SV CV, cs = [TV, .int .i64 r.kind, SV, CV, .int .i64 r.at_] ∧ Strs w TV r.tg ∧ Strs w SV r.src ∧ Strs w CV r.cmd
theorem RuleR.pure {w w' : World} (hp : Pure w w') {r : RuleS} {cs : List Value} (h : RuleR w r cs) : RuleR w' r cs := by
  obtain ⟨TV, SV, CV, e, h1, h2, h3⟩ := h
  exact ⟨TV, SV, CV, e, h1.pure hp, h2.pure hp, h3.pure hp⟩
/-- A slice of rules. -/
def Rules (w : World) (V : Value) (l : List RuleS) : Prop := ∃ cells, Sl w V 5 l.length cells ∧ ∀ i (h : i < l.length), RuleR w l[i] ((cells.drop (i * 5)).take 5)
theorem Rules.pure {w w' : World} (hp : Pure w w') {V : Value} {l : List RuleS} (h : Rules w V l) : Rules w' V l := by
  obtain ⟨cells, h1, h2⟩ := h
  exact ⟨cells, h1.pure hp, fun i hi => (h2 i hi).pure hp⟩
theorem five_get {cells : List Value} {i : Nat} {a b c d e : Value} (h : (cells.drop (i * 5)).take 5 = [a, b, c, d, e]) :
    cells[i * 5]? = some a ∧ cells[i * 5 + 1]? = some b ∧ cells[i * 5 + 2]? = some c ∧ cells[i * 5 + 3]? = some d ∧ cells[i * 5 + 4]? = some e := by
  have g : ∀ j, j < 5 → cells[i * 5 + j]? = [a, b, c, d, e][j]? := fun j hj => by
    rw [← h, List.getElem?_take_of_lt hj, List.getElem?_drop]
  exact ⟨by have := g 0 (by omega); rwa [Nat.add_zero] at this, g 1 (by omega), g 2 (by omega), g 3 (by omega), g 4 (by omega)⟩
/-- A rule of a slice, cell by cell. -/
theorem Rules.get {w : World} {A : Option Addr} {n c : Nat} {l : List RuleS} (h : Rules w (.slice A n c) l) : n = l.length ∧ n ≤ c ∧ c ≤ maxLen ∧ (n = 0 ∨ ∃ b o, A = some ⟨b, o, none⟩ ∧ ∀ i (hi : i < l.length), ∃ TV SV CV, w.cell? ⟨b, o + i * 5, none⟩ = some TV ∧ w.cell? ⟨b, o + i * 5 + 1, none⟩ = some (.int .i64 l[i].kind) ∧
    w.cell? ⟨b, o + i * 5 + 2, none⟩ = some SV ∧ w.cell? ⟨b, o + i * 5 + 3, none⟩ = some CV ∧ w.cell? ⟨b, o + i * 5 + 4, none⟩ = some (.int .i64 l[i].at_) ∧ Strs w TV l[i].tg ∧ Strs w SV l[i].src ∧ Strs w CV l[i].cmd) := by
  obtain ⟨cells, ⟨A', c', e, h1, h2, h3, h4⟩, hr⟩ := h
  cases e
  refine ⟨rfl, h1, h2, h4.imp id ?_⟩
  rintro ⟨b, o, rfl, hc⟩
  refine ⟨b, o, rfl, fun i hi => ?_⟩
  obtain ⟨TV, SV, CV, e5, t1, t2, t3⟩ := hr i hi
  obtain ⟨g0, g1, g2, g3, g4⟩ := five_get e5
  exact ⟨TV, SV, CV, hc _ _ g0, hc _ _ g1, hc _ _ g2, hc _ _ g3, hc _ _ g4, t1, t2, t3⟩
set_option maxHeartbeats 400000 in
/-- Has, of the document. -/
theorem rhas_calls (V : Value) (l : List ByteArray) (x : ByteArray) (w : World) (hV : Strs w V l) :
    Calls Try.prog 13 #[V, .string x] w fun e w' => e = .returned (.bool (mem l x)) ∧ w = w' := by
  obtain ⟨A, c, rfl, h1, h2, h3, h4⟩ := hV
  unfold maxLen at h2
  go_enter Try.func13, Try.ntmps13
  go_wp2
  go_loop [5] (fun i => ∃ k : Nat, k ≤ l.length ∧ i = .int .i64 k ∧ Hid (∀ j, j < k → l[j]? ≠ some x)) (fun i => l.length - (intOf i).toNat)
  case atStart => exact ⟨0, Nat.zero_le _, rfl, fun j hj => by omega⟩
  case round =>
    obtain ⟨k, hk, rfl, hno⟩ := hrel
    by_cases hlt : k < l.length
    · obtain ⟨b, o, rfl, hcells⟩ := h4.resolve_left (by omega)
      clear h4
      have hx0 : w.cell? ⟨b, o + k, none⟩ = some (.string l[k]) := hcells k _ (strs_get hlt)
      clear hcells
      by_cases he : l[k] = x
      · have HR : Hid (mem l x = true) := (mem_iff l x).2 (he ▸ List.getElem_mem hlt)
        have he' : (l[k].toList == x.toList) = true := by rw [strEq]; simp [he]
        clear he
        go_wp2
        go_ret
        exact ⟨ret_bool HR.out.symm, rfl⟩
      · have he' : (l[k].toList == x.toList) = false := by rw [strEq]; simp [he]
        have hno' := mem_step hlt hno.out he
        clear he
        have hno2 := Lib.hid hno'
        clear hno'
        go_wp2
        go_round
        case rel => exact ⟨k + 1, by omega, by go_num, hno2⟩
        case measure => simp [intOf]; omega
    · have HR : Hid (mem l x = false) := mem_end (fun j hj => hno.out j (by omega))
      go_wp2
      go_ret
      exact ⟨ret_bool HR.out.symm, rfl⟩
/-- A rule's target, if it has one alone. -/
def singleB (r : RuleS) : ByteArray := match r.tg with | [t] => t | _ => ⟨#[]⟩
set_option maxHeartbeats 4000000 in
theorem single_calls (TV SV CV : Value) (r : RuleS) (w : World) (hT : Strs w TV r.tg) :
    Calls Try.prog 40 #[.agg #[TV, .int .i64 r.kind, SV, CV, .int .i64 r.at_]] w fun e w' => e = .returned (.string (singleB r)) ∧ Mem none_ w [] w' := by
  have HM0 := (Mem.start (fp := none_) w).box #[TV, .int .i64 r.kind, SV, CV, .int .i64 r.at_] 25
  have a0 := Blk.cell_ (HM0.at_ 0 rfl) 0
  simp only [List.getElem?_toArray, List.getElem?_cons_succ, List.getElem?_cons_zero] at a0
  obtain ⟨A, c, rfl, h1, h2, h3, h4⟩ := hT.pure HM0.mu
  unfold maxLen at h2
  have HMe := Lib.hid (HM0.sel [] (by decide))
  obtain ⟨R, hR⟩ : ∃ R, singleB r = R := ⟨_, rfl⟩
  rw [hR]
  obtain ⟨tg, kd, src, cmd, at_⟩ := r
  unfold singleB at hR
  simp only at hR a0 h1 h3 h4 ⊢
  by_cases h0 : tg.length = 1
  · obtain ⟨x, hx⟩ := List.length_eq_one_iff.1 h0
    subst hx
    obtain ⟨b, o, rfl, hcells⟩ := h4.resolve_left (by simp)
    have x0 := hcells 0 _ (strs_get (l := [x]) (k := 0) (by simp))
    simp only [Nat.add_zero, List.getElem_cons_zero] at x0
    simp only at hR
    subst hR
    clear hcells h3 h4 HM0
    simp only [List.length_singleton] at a0 x0 HMe ⊢
    go_enter Try.func40, Try.ntmps40
    go_wp2_with fail
    go_ret
    exact ⟨rfl, HMe.out⟩
  · have hR2 : Hid (R = ⟨#[]⟩) := by
      unfold Hid
      rw [← hR]
      match tg, h0 with
      | [], _ => rfl
      | [x], h0 => simp at h0
      | x :: y :: l, _ => rfl
    have q1 : ((tg.length : Int) != 1) = true := by rw [bne_iff_ne]; omega
    have q2 : ¬ ((tg.length : Int) = 1) := by omega
    clear hR h3 h4 HM0 h0
    go_enter Try.func40, Try.ntmps40
    go_wp2_with fail
    go_ret
    exact ⟨by rw [hR2.out]; rfl, HMe.out⟩
/-- A name's class. -/
def classB (s : ByteArray) : Int :=
  if s = ⟨#[46, 80, 72, 79, 78, 89]⟩ ∨ s = ⟨#[46, 80, 82, 69, 67, 73, 79, 85, 83]⟩ ∨ s = ⟨#[46, 73, 71, 78, 79, 82, 69]⟩ ∨ s = ⟨#[46, 83, 73, 76, 69, 78, 84]⟩ ∨ s = ⟨#[46, 78, 79, 84, 77, 65, 73, 78]⟩ ∨ s = ⟨#[46, 69, 88, 69, 67]⟩ ∨ s = ⟨#[46, 77, 69, 84, 65]⟩ then 1 else
  if s = ⟨#[46, 79, 82, 68, 69, 82]⟩ then 2 else
  if s = ⟨#[46, 83, 85, 70, 70, 73, 88, 69, 83]⟩ then 3 else
  if s = ⟨#[46, 77, 65, 73, 78]⟩ then 5 else
  if s = ⟨#[46, 87, 65, 73, 84]⟩ then 6 else
  if s = ⟨#[46, 68, 69, 70, 65, 85, 76, 84]⟩ ∨ s = ⟨#[46, 66, 69, 71, 73, 78]⟩ ∨ s = ⟨#[46, 69, 78, 68]⟩ ∨ s = ⟨#[46, 73, 78, 84, 69, 82, 82, 85, 80, 84]⟩ then 7 else
  if s = ⟨#[46, 78, 79, 84, 80, 65, 82, 65, 76, 76, 69, 76]⟩ then 8 else
  if Lib.hasPrefix (s.data.toList ++ [46]) [46, 80, 65, 84, 72, 46] then 4 else 0
end Go.Proofs.Ytliglejbkpjamaa
