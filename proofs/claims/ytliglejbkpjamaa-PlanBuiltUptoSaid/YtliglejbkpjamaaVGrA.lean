/-
  Layer 16 (graph): rules as they read; Class, single, Has.
-/
/-
  Layer 16 (graph): Class, Suffixes.
-/
/-
  Layer 16 (graph): sources; wrong; far.
-/
import Derived.Test.YtliglejbkpjamaaVSuffC
import Derived.Test.YtliglejbkpjamaaVFork
import Derived.Test.YtliglejbkpjamaaVApp
import Derived.Test.YtliglejbkpjamaaVMapR
import Derived.Test.YtliglejbkpjamaaVPthSh
set_option linter.unusedVariables false
set_option linter.unusedSimpArgs false
section
set_option maxRecDepth 20000
namespace Go.Proofs.Ytliglejbkpjamaa
open Go.RowKit

/-- A rule. -/
structure RuleS where
  tg : List ByteArray
  kind : Int
  src : List ByteArray
  cmd : List ByteArray
  at_ : Int
/-- Cells that read as a rule. -/
def RuleR (w : World) (r : RuleS) (cs : List Value) : Prop := ∃ TV SV CV, cs = [TV, .int .i64 r.kind, SV, CV, .int .i64 r.at_] ∧ Strs w TV r.tg ∧ Strs w SV r.src ∧ Strs w CV r.cmd
theorem RuleR.pure {w w' : World} (hp : Pure w w') {r : RuleS} {cs : List Value} (h : RuleR w r cs) : RuleR w' r cs := by
  obtain ⟨TV, SV, CV, e, h1, h2, h3⟩ := h
  exact ⟨TV, SV, CV, e, h1.pure hp, h2.pure hp, h3.pure hp⟩
/-- A slice of rules. -/
def Rules (w : World) (V : Value) (l : List RuleS) : Prop := ∃ cells, Sl w V 5 l.length cells ∧ ∀ i (h : i < l.length), RuleR w l[i] ((cells.drop (i * 5)).take 5)
theorem Rules.pure {w w' : World} (hp : Pure w w') {V : Value} {l : List RuleS} (h : Rules w V l) : Rules w' V l := by
  obtain ⟨cells, h1, h2⟩ := h
  exact ⟨cells, h1.pure hp, fun i hi => (h2 i hi).pure hp⟩
theorem five_get {cells : List Value} {i : Nat} {a b c d e : Value} (h : (cells.drop (i * 5)).take 5 = [a, b, c, d, e]) :
    cells[i * 5]? = some a ∧ cells[i * 5 + 1]? = some b ∧ cells[i * 5 + 2]? = some c ∧ cells[i * 5 + 3]? = some d ∧ cells[i * 5 + 4]? = some e := by
  have g : ∀ j, j < 5 → cells[i * 5 + j]? = [a, b, c, d, e][j]? := fun j hj => by
    rw [← h, List.getElem?_take_of_lt hj, List.getElem?_drop]
  exact ⟨by have := g 0 (by omega); rwa [Nat.add_zero] at this, g 1 (by omega), g 2 (by omega), g 3 (by omega), g 4 (by omega)⟩
/-- A rule of a slice, cell by cell. -/
theorem Rules.get {w : World} {A : Option Addr} {n c : Nat} {l : List RuleS} (h : Rules w (.slice A n c) l) : n = l.length ∧ n ≤ c ∧ c ≤ maxLen ∧ (n = 0 ∨ ∃ b o, A = some ⟨b, o, none⟩ ∧ ∀ i (hi : i < l.length), ∃ TV SV CV, w.cell? ⟨b, o + i * 5, none⟩ = some TV ∧ w.cell? ⟨b, o + i * 5 + 1, none⟩ = some (.int .i64 l[i].kind) ∧
    w.cell? ⟨b, o + i * 5 + 2, none⟩ = some SV ∧ w.cell? ⟨b, o + i * 5 + 3, none⟩ = some CV ∧ w.cell? ⟨b, o + i * 5 + 4, none⟩ = some (.int .i64 l[i].at_) ∧ Strs w TV l[i].tg ∧ Strs w SV l[i].src ∧ Strs w CV l[i].cmd) := by
  obtain ⟨cells, ⟨A', c', e, h1, h2, h3, h4⟩, hr⟩ := h
  cases e
  refine ⟨rfl, h1, h2, h4.imp id ?_⟩
  rintro ⟨b, o, rfl, hc⟩
  refine ⟨b, o, rfl, fun i hi => ?_⟩
  obtain ⟨TV, SV, CV, e5, t1, t2, t3⟩ := hr i hi
  obtain ⟨g0, g1, g2, g3, g4⟩ := five_get e5
  exact ⟨TV, SV, CV, hc _ _ g0, hc _ _ g1, hc _ _ g2, hc _ _ g3, hc _ _ g4, t1, t2, t3⟩
set_option maxHeartbeats 400000 in
/-- Has, of the document. -/
theorem rhas_calls (V : Value) (l : List ByteArray) (x : ByteArray) (w : World) (hV : Strs w V l) :
    Calls Try.prog 13 #[V, .string x] w fun e w' => e = .returned (.bool (mem l x)) ∧ w = w' := by
  obtain ⟨A, c, rfl, h1, h2, h3, h4⟩ := hV
  unfold maxLen at h2
  go_enter Try.func13, Try.ntmps13
  go_wp2
  go_loop [5] (fun i => ∃ k : Nat, k ≤ l.length ∧ i = .int .i64 k ∧ Hid (∀ j, j < k → l[j]? ≠ some x)) (fun i => l.length - (intOf i).toNat)
  case atStart => exact ⟨0, Nat.zero_le _, rfl, fun j hj => by omega⟩
  case round =>
    obtain ⟨k, hk, rfl, hno⟩ := hrel
    by_cases hlt : k < l.length
    · obtain ⟨b, o, rfl, hcells⟩ := h4.resolve_left (by omega)
      clear h4
      have hx0 : w.cell? ⟨b, o + k, none⟩ = some (.string l[k]) := hcells k _ (strs_get hlt)
      clear hcells
      by_cases he : l[k] = x
      · have HR : Hid (mem l x = true) := (mem_iff l x).2 (he ▸ List.getElem_mem hlt)
        have he' : (l[k].toList == x.toList) = true := by rw [strEq]; simp [he]
        clear he
        go_wp2
        go_ret
        exact ⟨ret_bool HR.out.symm, rfl⟩
      · have he' : (l[k].toList == x.toList) = false := by rw [strEq]; simp [he]
        have hno' := mem_step hlt hno.out he
        clear he
        have hno2 := Lib.hid hno'
        clear hno'
        go_wp2
        go_round
        case rel => exact ⟨k + 1, by omega, by go_num, hno2⟩
        case measure => simp [intOf]; omega
    · have HR : Hid (mem l x = false) := mem_end (fun j hj => hno.out j (by omega))
      go_wp2
      go_ret
      exact ⟨ret_bool HR.out.symm, rfl⟩
/-- A rule's target, if it has one alone. -/
def singleB (r : RuleS) : ByteArray := match r.tg with | [t] => t | _ => ⟨#[]⟩
set_option maxHeartbeats 4000000 in
theorem single_calls (TV SV CV : Value) (r : RuleS) (w : World) (hT : Strs w TV r.tg) :
    Calls Try.prog 40 #[.agg #[TV, .int .i64 r.kind, SV, CV, .int .i64 r.at_]] w fun e w' => e = .returned (.string (singleB r)) ∧ Mem none_ w [] w' := by
  have HM0 := (Mem.start (fp := none_) w).box #[TV, .int .i64 r.kind, SV, CV, .int .i64 r.at_] 25
  have a0 := Blk.cell_ (HM0.at_ 0 rfl) 0
  simp only [List.getElem?_toArray, List.getElem?_cons_succ, List.getElem?_cons_zero] at a0
  obtain ⟨A, c, rfl, h1, h2, h3, h4⟩ := hT.pure HM0.mu
  unfold maxLen at h2
  have HMe := Lib.hid (HM0.sel [] (by decide))
  obtain ⟨R, hR⟩ : ∃ R, singleB r = R := ⟨_, rfl⟩
  rw [hR]
  obtain ⟨tg, kd, src, cmd, at_⟩ := r
  unfold singleB at hR
  simp only at hR a0 h1 h3 h4 ⊢
  by_cases h0 : tg.length = 1
  · obtain ⟨x, hx⟩ := List.length_eq_one_iff.1 h0
    subst hx
    obtain ⟨b, o, rfl, hcells⟩ := h4.resolve_left (by simp)
    have x0 := hcells 0 _ (strs_get (l := [x]) (k := 0) (by simp))
    simp only [Nat.add_zero, List.getElem_cons_zero] at x0
    simp only at hR
    subst hR
    clear hcells h3 h4 HM0
    simp only [List.length_singleton] at a0 x0 HMe ⊢
    go_enter Try.func40, Try.ntmps40
    go_wp2_with fail
    go_ret
    exact ⟨rfl, HMe.out⟩
  · have hR2 : Hid (R = ⟨#[]⟩) := by
      unfold Hid
      rw [← hR]
      match tg, h0 with
      | [], _ => rfl
      | [x], h0 => simp at h0
      | x :: y :: l, _ => rfl
    have q1 : ((tg.length : Int) != 1) = true := by rw [bne_iff_ne]; omega
    have q2 : ¬ ((tg.length : Int) = 1) := by omega
    clear hR h3 h4 HM0 h0
    go_enter Try.func40, Try.ntmps40
    go_wp2_with fail
    go_ret
    exact ⟨by rw [hR2.out]; rfl, HMe.out⟩
/-- A name's class. -/
def classB (s : ByteArray) : Int :=
  if s = ⟨#[46, 80, 72, 79, 78, 89]⟩ ∨ s = ⟨#[46, 80, 82, 69, 67, 73, 79, 85, 83]⟩ ∨ s = ⟨#[46, 73, 71, 78, 79, 82, 69]⟩ ∨ s = ⟨#[46, 83, 73, 76, 69, 78, 84]⟩ ∨ s = ⟨#[46, 78, 79, 84, 77, 65, 73, 78]⟩ ∨ s = ⟨#[46, 69, 88, 69, 67]⟩ ∨ s = ⟨#[46, 77, 69, 84, 65]⟩ then 1 else
  if s = ⟨#[46, 79, 82, 68, 69, 82]⟩ then 2 else
  if s = ⟨#[46, 83, 85, 70, 70, 73, 88, 69, 83]⟩ then 3 else
  if s = ⟨#[46, 77, 65, 73, 78]⟩ then 5 else
  if s = ⟨#[46, 87, 65, 73, 84]⟩ then 6 else
  if s = ⟨#[46, 68, 69, 70, 65, 85, 76, 84]⟩ ∨ s = ⟨#[46, 66, 69, 71, 73, 78]⟩ ∨ s = ⟨#[46, 69, 78, 68]⟩ ∨ s = ⟨#[46, 73, 78, 84, 69, 82, 82, 85, 80, 84]⟩ then 7 else
  if s = ⟨#[46, 78, 79, 84, 80, 65, 82, 65, 76, 76, 69, 76]⟩ then 8 else
  if Lib.hasPrefix (s.data.toList ++ [46]) [46, 80, 65, 84, 72, 46] then 4 else 0
end Go.Proofs.Ytliglejbkpjamaa
end
section
set_option maxRecDepth 20000
namespace Go.Proofs.Ytliglejbkpjamaa
open Go.RowKit

theorem eqC (s : ByteArray) (l : List UInt8) : (s.toList == l) = decide (s = ⟨l.toArray⟩) := by
  have h := strEq s ⟨l.toArray⟩
  have e : (⟨l.toArray⟩ : ByteArray).toList = l := by rw [ByteArray.toList_eq]
  rw [e] at h
  exact h
theorem neC {s : ByteArray} {l : List UInt8} (h : ¬ s = ⟨l.toArray⟩) : (s.toList == l) = false ∧ ¬ s.toList = l := by
  have h1 : (s.toList == l) = false := by rw [eqC]; exact decide_eq_false h
  exact ⟨h1, fun e => by rw [e] at h1; simp at h1⟩
theorem isC {s : ByteArray} {l : List UInt8} (h : s = ⟨l.toArray⟩) : (s.toList == l) = true ∧ s.toList = l := by
  have h1 : (s.toList == l) = true := by rw [eqC]; exact decide_eq_true h
  exact ⟨h1, by simpa using h1⟩
set_option maxHeartbeats 8000000 in
theorem class_calls (s : ByteArray) (w : World) (hs : s.size ≤ 4611686018427387904) :
    Calls Try.prog 39 #[.string s] w fun e w' => e = .returned (.int .i64 (classB s)) ∧ w = w' := by
  have hap : ∀ wx, (Op.stringOp .add s ⟨#[46]⟩).run Try.prog wx = .ok (.string (s ++ ⟨#[46]⟩)) wx := fun wx => run_string_add_sum wx _ _ (by show s.size + 1 ≤ _; omega)
  have hP := Try.strings_HasPrefix (s ++ ⟨#[46]⟩) ⟨#[46, 80, 65, 84, 72, 46]⟩ w
  have eP : Lib.hasPrefix (s ++ ⟨#[46]⟩ : ByteArray).data.toList (⟨#[46, 80, 65, 84, 72, 46]⟩ : ByteArray).data.toList = Lib.hasPrefix (s.data.toList ++ [46]) [46, 80, 65, 84, 72, 46] := by simp
  rw [eP] at hP
  obtain ⟨B, hB⟩ : ∃ B, Lib.hasPrefix (s.data.toList ++ [46]) [46, 80, 65, 84, 72, 46] = B := ⟨_, rfl⟩
  rw [hB] at hP
  clear eP
  generalize hX : s ++ ⟨#[46]⟩ = X at *
  clear hX
  go_enter Try.func39, Try.ntmps39
  by_cases h0 : s = ⟨#[46, 80, 72, 79, 78, 89]⟩
  · obtain ⟨q, q'⟩ := isC (l := [46, 80, 72, 79, 78, 89]) h0
    have hc : classB s = 1 := by rw [h0]; decide +kernel
    rw [hc]
    clear hc h0 hP hB
    go_wp2_with fail
    go_ret
    exact ⟨rfl, rfl⟩
  obtain ⟨n0, m0⟩ := neC (l := [46, 80, 72, 79, 78, 89]) h0
  by_cases h1 : s = ⟨#[46, 80, 82, 69, 67, 73, 79, 85, 83]⟩
  · obtain ⟨q, q'⟩ := isC (l := [46, 80, 82, 69, 67, 73, 79, 85, 83]) h1
    have hc : classB s = 1 := by rw [h1]; decide +kernel
    rw [hc]
    clear hc h0 h1 hP hB
    go_wp2_with fail
    go_ret
    exact ⟨rfl, rfl⟩
  obtain ⟨n1, m1⟩ := neC (l := [46, 80, 82, 69, 67, 73, 79, 85, 83]) h1
  by_cases h2 : s = ⟨#[46, 73, 71, 78, 79, 82, 69]⟩
  · obtain ⟨q, q'⟩ := isC (l := [46, 73, 71, 78, 79, 82, 69]) h2
    have hc : classB s = 1 := by rw [h2]; decide +kernel
    rw [hc]
    clear hc h0 h1 h2 hP hB
    go_wp2_with fail
    go_ret
    exact ⟨rfl, rfl⟩
  obtain ⟨n2, m2⟩ := neC (l := [46, 73, 71, 78, 79, 82, 69]) h2
  by_cases h3 : s = ⟨#[46, 83, 73, 76, 69, 78, 84]⟩
  · obtain ⟨q, q'⟩ := isC (l := [46, 83, 73, 76, 69, 78, 84]) h3
    have hc : classB s = 1 := by rw [h3]; decide +kernel
    rw [hc]
    clear hc h0 h1 h2 h3 hP hB
    go_wp2_with fail
    go_ret
    exact ⟨rfl, rfl⟩
  obtain ⟨n3, m3⟩ := neC (l := [46, 83, 73, 76, 69, 78, 84]) h3
  by_cases h4 : s = ⟨#[46, 78, 79, 84, 77, 65, 73, 78]⟩
  · obtain ⟨q, q'⟩ := isC (l := [46, 78, 79, 84, 77, 65, 73, 78]) h4
    have hc : classB s = 1 := by rw [h4]; decide +kernel
    rw [hc]
    clear hc h0 h1 h2 h3 h4 hP hB
    go_wp2_with fail
    go_ret
    exact ⟨rfl, rfl⟩
  obtain ⟨n4, m4⟩ := neC (l := [46, 78, 79, 84, 77, 65, 73, 78]) h4
  by_cases h5 : s = ⟨#[46, 69, 88, 69, 67]⟩
  · obtain ⟨q, q'⟩ := isC (l := [46, 69, 88, 69, 67]) h5
    have hc : classB s = 1 := by rw [h5]; decide +kernel
    rw [hc]
    clear hc h0 h1 h2 h3 h4 h5 hP hB
    go_wp2_with fail
    go_ret
    exact ⟨rfl, rfl⟩
  obtain ⟨n5, m5⟩ := neC (l := [46, 69, 88, 69, 67]) h5
  by_cases h6 : s = ⟨#[46, 77, 69, 84, 65]⟩
  · obtain ⟨q, q'⟩ := isC (l := [46, 77, 69, 84, 65]) h6
    have hc : classB s = 1 := by rw [h6]; decide +kernel
    rw [hc]
    clear hc h0 h1 h2 h3 h4 h5 h6 hP hB
    go_wp2_with fail
    go_ret
    exact ⟨rfl, rfl⟩
  obtain ⟨n6, m6⟩ := neC (l := [46, 77, 69, 84, 65]) h6
  by_cases h7 : s = ⟨#[46, 79, 82, 68, 69, 82]⟩
  · obtain ⟨q, q'⟩ := isC (l := [46, 79, 82, 68, 69, 82]) h7
    have hc : classB s = 2 := by rw [h7]; decide +kernel
    rw [hc]
    clear hc h0 h1 h2 h3 h4 h5 h6 h7 hP hB
    go_wp2_with fail
    go_ret
    exact ⟨rfl, rfl⟩
  obtain ⟨n7, m7⟩ := neC (l := [46, 79, 82, 68, 69, 82]) h7
  by_cases h8 : s = ⟨#[46, 83, 85, 70, 70, 73, 88, 69, 83]⟩
  · obtain ⟨q, q'⟩ := isC (l := [46, 83, 85, 70, 70, 73, 88, 69, 83]) h8
    have hc : classB s = 3 := by rw [h8]; decide +kernel
    rw [hc]
    clear hc h0 h1 h2 h3 h4 h5 h6 h7 h8 hP hB
    go_wp2_with fail
    go_ret
    exact ⟨rfl, rfl⟩
  obtain ⟨n8, m8⟩ := neC (l := [46, 83, 85, 70, 70, 73, 88, 69, 83]) h8
  by_cases h9 : s = ⟨#[46, 77, 65, 73, 78]⟩
  · obtain ⟨q, q'⟩ := isC (l := [46, 77, 65, 73, 78]) h9
    have hc : classB s = 5 := by rw [h9]; decide +kernel
    rw [hc]
    clear hc h0 h1 h2 h3 h4 h5 h6 h7 h8 h9 hP hB
    go_wp2_with fail
    go_ret
    exact ⟨rfl, rfl⟩
  obtain ⟨n9, m9⟩ := neC (l := [46, 77, 65, 73, 78]) h9
  by_cases h10 : s = ⟨#[46, 87, 65, 73, 84]⟩
  · obtain ⟨q, q'⟩ := isC (l := [46, 87, 65, 73, 84]) h10
    have hc : classB s = 6 := by rw [h10]; decide +kernel
    rw [hc]
    clear hc h0 h1 h2 h3 h4 h5 h6 h7 h8 h9 h10 hP hB
    go_wp2_with fail
    go_ret
    exact ⟨rfl, rfl⟩
  obtain ⟨n10, m10⟩ := neC (l := [46, 87, 65, 73, 84]) h10
  by_cases h11 : s = ⟨#[46, 68, 69, 70, 65, 85, 76, 84]⟩
  · obtain ⟨q, q'⟩ := isC (l := [46, 68, 69, 70, 65, 85, 76, 84]) h11
    have hc : classB s = 7 := by rw [h11]; decide +kernel
    rw [hc]
    clear hc h0 h1 h2 h3 h4 h5 h6 h7 h8 h9 h10 h11 hP hB
    go_wp2_with fail
    go_ret
    exact ⟨rfl, rfl⟩
  obtain ⟨n11, m11⟩ := neC (l := [46, 68, 69, 70, 65, 85, 76, 84]) h11
  by_cases h12 : s = ⟨#[46, 66, 69, 71, 73, 78]⟩
  · obtain ⟨q, q'⟩ := isC (l := [46, 66, 69, 71, 73, 78]) h12
    have hc : classB s = 7 := by rw [h12]; decide +kernel
    rw [hc]
    clear hc h0 h1 h2 h3 h4 h5 h6 h7 h8 h9 h10 h11 h12 hP hB
    go_wp2_with fail
    go_ret
    exact ⟨rfl, rfl⟩
  obtain ⟨n12, m12⟩ := neC (l := [46, 66, 69, 71, 73, 78]) h12
  by_cases h13 : s = ⟨#[46, 69, 78, 68]⟩
  · obtain ⟨q, q'⟩ := isC (l := [46, 69, 78, 68]) h13
    have hc : classB s = 7 := by rw [h13]; decide +kernel
    rw [hc]
    clear hc h0 h1 h2 h3 h4 h5 h6 h7 h8 h9 h10 h11 h12 h13 hP hB
    go_wp2_with fail
    go_ret
    exact ⟨rfl, rfl⟩
  obtain ⟨n13, m13⟩ := neC (l := [46, 69, 78, 68]) h13
  by_cases h14 : s = ⟨#[46, 73, 78, 84, 69, 82, 82, 85, 80, 84]⟩
  · obtain ⟨q, q'⟩ := isC (l := [46, 73, 78, 84, 69, 82, 82, 85, 80, 84]) h14
    have hc : classB s = 7 := by rw [h14]; decide +kernel
    rw [hc]
    clear hc h0 h1 h2 h3 h4 h5 h6 h7 h8 h9 h10 h11 h12 h13 h14 hP hB
    go_wp2_with fail
    go_ret
    exact ⟨rfl, rfl⟩
  obtain ⟨n14, m14⟩ := neC (l := [46, 73, 78, 84, 69, 82, 82, 85, 80, 84]) h14
  by_cases h15 : s = ⟨#[46, 78, 79, 84, 80, 65, 82, 65, 76, 76, 69, 76]⟩
  · obtain ⟨q, q'⟩ := isC (l := [46, 78, 79, 84, 80, 65, 82, 65, 76, 76, 69, 76]) h15
    have hc : classB s = 8 := by rw [h15]; decide +kernel
    rw [hc]
    clear hc h0 h1 h2 h3 h4 h5 h6 h7 h8 h9 h10 h11 h12 h13 h14 h15 hP hB
    go_wp2_with fail
    go_ret
    exact ⟨rfl, rfl⟩
  obtain ⟨n15, m15⟩ := neC (l := [46, 78, 79, 84, 80, 65, 82, 65, 76, 76, 69, 76]) h15
  have hc : Hid (classB s = if B = true then 4 else 0) := by
    unfold Hid classB
    rw [if_neg (by rintro (h | h | h | h | h | h | h) <;> contradiction), if_neg (by rintro h; contradiction), if_neg (by rintro h; contradiction), if_neg (by rintro h; contradiction), if_neg (by rintro h; contradiction), if_neg (by rintro (h | h | h | h) <;> contradiction), if_neg (by rintro h; contradiction), hB]
  clear h0 h1 h2 h3 h4 h5 h6 h7 h8 h9 h10 h11 h12 h13 h14 h15 hB
  go_wp2_with fail
  refine hP.mono ?_
  rintro e w1 ⟨rfl, rfl⟩
  clear hP
  cases B with
  | true =>
    go_wp2_with fail
    go_ret
    exact ⟨by rw [hc.out]; rfl, rfl⟩
  | false =>
    go_wp2_with fail
    go_ret
    exact ⟨by rw [hc.out]; rfl, rfl⟩
theorem neE {s : ByteArray} (h : ¬ s = ⟨#[]⟩) : (s.toList == []) = false ∧ ¬ s.toList = [] ∧ (!(s.toList == [])) = true := by
  obtain ⟨a, b⟩ := neC (l := []) h
  exact ⟨a, b, by rw [a]; rfl⟩
theorem isE {s : ByteArray} (h : s = ⟨#[]⟩) : (s.toList == []) = true ∧ s.toList = [] ∧ (!(s.toList == [])) = false := by
  obtain ⟨a, b⟩ := isC (l := []) h
  exact ⟨a, b, by rw [a]; rfl⟩
def restB (name s : ByteArray) : ByteArray := ⟨(Lib.trimPrefix name.data.toList s.data.toList).toArray⟩
/-- The two suffixes of a name, or one. -/
def sufx (name : ByteArray) (all : List ByteArray) : List ByteArray → ByteArray × ByteArray × Bool
  | [] => if ¬ name = ⟨#[]⟩ ∧ mem all name = true then (name, ⟨#[]⟩, true) else (⟨#[]⟩, ⟨#[]⟩, false)
  | s :: l => if Lib.hasPrefix name.data.toList s.data.toList = true ∧ ¬ s = ⟨#[]⟩ ∧ ¬ restB name s = ⟨#[]⟩ ∧ mem all (restB name s) = true then (s, restB name s, true) else sufx name all l
set_option maxHeartbeats 8000000 in
theorem sufx_calls (name : ByteArray) (V : Value) (list : List ByteArray) (w : World) (hV : Strs w V list) :
    Calls Try.prog 42 #[.string name, V] w fun e w' => e = .returned (.tuple #[.string (sufx name list list).1, .string (sufx name list list).2.1, .bool (sufx name list list).2.2]) ∧ w = w' := by
  have hCo := fun x => contains_calls V list x w hV
  obtain ⟨A, c, rfl, h1, h2, h3, h4⟩ := hV
  unfold maxLen at h2
  obtain ⟨⟨R1, R2, R3⟩, hR⟩ : ∃ R, sufx name list list = R := ⟨_, rfl⟩
  rw [hR]
  have HR : Hid (sufx name list (list.drop 0) = (R1, R2, R3)) := hR
  clear hR
  go_enter Try.func42, Try.ntmps42
  go_wp2_with fail
  go_loop [13] (fun v13 => ∃ k : Nat, k ≤ list.length ∧ v13 = .int .i64 k ∧ Hid (sufx name list (list.drop k) = (R1, R2, R3))) (fun v => list.length - (intOf v).toNat)
  case atStart => exact ⟨0, Nat.zero_le _, rfl, HR⟩
  case round =>
    clear HR
    obtain ⟨k, hk, rfl, HR⟩ := hrel
    by_cases hlt : k < list.length
    · have hlt' : decide ((k : Int) < (list.length : Int)) = true := decide_eq_true (by omega)
      have hltN : decide (k < list.length) = true := decide_eq_true hlt
      obtain ⟨b, o, rfl, hcells⟩ := h4.resolve_left (by omega)
      have x0 : w.cell? ⟨b, o + k, none⟩ = some (.string list[k]) := hcells _ _ (strs_get hlt)
      have HS : Hid (sufx name list (list.drop k) = if Lib.hasPrefix name.data.toList list[k].data.toList = true ∧ ¬ list[k] = ⟨#[]⟩ ∧ ¬ restB name list[k] = ⟨#[]⟩ ∧ mem list (restB name list[k]) = true then (list[k], restB name list[k], true) else sufx name list (list.drop (k + 1))) := by
        unfold Hid
        rw [List.drop_eq_getElem_cons hlt]
        rfl
      have hCp := Try.strings_CutPrefix name list[k] w
      have hCo1 := hCo (restB name list[k])
      clear hcells h4 h3
      generalize list[k] = s at *
      have eB : (⟨(Lib.trimPrefix name.data.toList s.data.toList).toArray⟩ : ByteArray) = restB name s := rfl
      rw [eB] at hCp
      clear eB
      generalize restB name s = r at *
      obtain ⟨p, hp⟩ : ∃ p, Lib.hasPrefix name.data.toList s.data.toList = p := ⟨_, rfl⟩
      rw [hp] at hCp HS
      clear hp
      have skip : ∀ (hn : ¬ (p = true ∧ ¬ s = ⟨#[]⟩ ∧ ¬ r = ⟨#[]⟩ ∧ mem list r = true)), Hid (sufx name list (list.drop (k + 1)) = (R1, R2, R3)) := fun hn => by
        have h1 := HS.out
        rw [if_neg hn, HR.out] at h1
        exact h1.symm
      have take : ∀ (hn : p = true ∧ ¬ s = ⟨#[]⟩ ∧ ¬ r = ⟨#[]⟩ ∧ mem list r = true), R1 = s ∧ R2 = r ∧ R3 = true := fun hn => by
        have h1 := HS.out
        rw [if_pos hn, HR.out] at h1
        cases h1
        exact ⟨rfl, rfl, rfl⟩
      clear HS HR
      go_wp2_with fail
      refine hCp.mono ?_
      rintro e w1 ⟨rfl, rfl⟩
      clear hCp x0
      cases p with
      | false =>
        have HR2 := skip (by rintro ⟨h, _⟩; cases h)
        clear skip take
        go_wp2_with fail
        go_round
        case rel => exact ⟨k + 1, by omega, by go_num, HR2⟩
        case measure => simp [intOf]; omega
      | true =>
        by_cases hs : s = ⟨#[]⟩
        · have HR2 := skip (by rintro ⟨_, h, _⟩; exact h hs)
          obtain ⟨q1, q2, q3⟩ := isE hs
          clear skip take hs
          go_wp2_with fail
          go_round
          case rel => exact ⟨k + 1, by omega, by go_num, HR2⟩
          case measure => simp [intOf]; omega
        · obtain ⟨q1, q2, q3⟩ := neE hs
          by_cases hr : r = ⟨#[]⟩
          · have HR2 := skip (by rintro ⟨_, _, h, _⟩; exact h hr)
            obtain ⟨z1, z2, z3⟩ := isE hr
            clear skip take hs hr
            go_wp2_with fail
            go_round
            case rel => exact ⟨k + 1, by omega, by go_num, HR2⟩
            case measure => simp [intOf]; omega
          · obtain ⟨z1, z2, z3⟩ := neE hr
            obtain ⟨m, hm⟩ : ∃ m, mem list r = m := ⟨_, rfl⟩
            rw [hm] at hCo1
            cases m with
            | true =>
              obtain ⟨e1, e2, e3⟩ := take ⟨rfl, hs, hr, hm⟩
              clear skip take hs hr hm
              go_wp2_with fail
              refine hCo1.mono ?_
              rintro e w1 ⟨rfl, rfl⟩
              clear hCo1
              go_wp2_with fail
              refine bodyPost_ret (v := .tuple #[.string s, .string r, .bool true]) (by simp [results, Try.results42, go_sem]) rfl ⟨?_, rfl⟩
              rw [e1, e2, e3]
            | false =>
              have HR2 := skip (by rintro ⟨_, _, _, h⟩; rw [hm] at h; cases h)
              clear skip take hs hr hm
              go_wp2_with fail
              refine hCo1.mono ?_
              rintro e w1 ⟨rfl, rfl⟩
              clear hCo1
              go_wp2_with fail
              go_round
              case rel => exact ⟨k + 1, by omega, by go_num, HR2⟩
              case measure => simp [intOf]; omega
    · have hlt' : decide ((k : Int) < (list.length : Int)) = false := decide_eq_false (by omega)
      have hltN : decide (k < list.length) = false := decide_eq_false hlt
      have HE := HR.out
      rw [List.drop_of_length_le (by omega)] at HE
      have HE2 := Lib.hid HE
      have hCo1 := hCo name
      clear HE HR
      by_cases hn : name = ⟨#[]⟩
      · obtain ⟨q1, q2, q3⟩ := isE hn
        have h1 := HE2.out
        unfold sufx at h1
        rw [if_neg (fun h => h.1 hn)] at h1
        have E := Lib.hid h1
        clear h1 hn HE2
        go_wp2_with fail
        have h1 := E.out
        cases h1
        exact bodyPost_ret (v := .tuple #[.string ⟨#[]⟩, .string ⟨#[]⟩, .bool false]) (by simp [results, Try.results42, go_sem]) rfl ⟨rfl, rfl⟩
      · obtain ⟨q1, q2, q3⟩ := neE hn
        obtain ⟨m, hm⟩ : ∃ m, mem list name = m := ⟨_, rfl⟩
        rw [hm] at hCo1
        cases m with
        | true =>
          have h1 := HE2.out
          unfold sufx at h1
          rw [if_pos ⟨hn, hm⟩] at h1
          obtain ⟨e1, h2⟩ := Prod.mk.inj h1
          obtain ⟨e2, e3⟩ := Prod.mk.inj h2
          have E := Lib.hid (And.intro e1 (And.intro e2 e3))
          clear h1 h2 e1 e2 e3 hn HE2 hm
          go_wp2_with fail
          refine hCo1.mono ?_
          rintro e w1 ⟨rfl, rfl⟩
          clear hCo1
          go_wp2_with fail
          refine bodyPost_ret (v := .tuple #[.string name, .string ⟨#[]⟩, .bool true]) (by simp [results, Try.results42, go_sem]) rfl ⟨?_, rfl⟩
          rw [← E.out.1, ← E.out.2.1, ← E.out.2.2]
        | false =>
          have h1 := HE2.out
          unfold sufx at h1
          rw [if_neg (fun h => by rw [hm] at h; cases h.2)] at h1
          have E := Lib.hid h1
          clear h1 hn HE2 hm
          go_wp2_with fail
          refine hCo1.mono ?_
          rintro e w1 ⟨rfl, rfl⟩
          clear hCo1
          go_wp2_with fail
          have h1 := E.out
          cases h1
          exact bodyPost_ret (v := .tuple #[.string ⟨#[]⟩, .string ⟨#[]⟩, .bool false]) (by simp [results, Try.results42, go_sem]) rfl ⟨rfl, rfl⟩
end Go.Proofs.Ytliglejbkpjamaa
end
section
set_option maxRecDepth 20000
namespace Go.Proofs.Ytliglejbkpjamaa
open Go.RowKit

def waitN : ByteArray := ⟨#[46, 87, 65, 73, 84]⟩
def srcStep (out : List ByteArray) (s : ByteArray) : List ByteArray := if s = waitN ∨ mem out s = true then out else out ++ [s]
/-- Texts, each once, without waits. -/
def srcB (l : List ByteArray) : List ByteArray := l.foldl srcStep []
theorem srcB_snoc (l : List ByteArray) (k : Nat) (h : k < l.length) : srcB (l.take (k + 1)) = srcStep (srcB (l.take k)) l[k] := by
  rw [List.take_succ_eq_append_getElem h]
  unfold srcB
  rw [List.foldl_append]; rfl
theorem srcStep_len (out : List ByteArray) (s : ByteArray) : (srcStep out s).length ≤ out.length + 1 := by unfold srcStep; split <;> simp
theorem srcB_len (l : List ByteArray) : ∀ k, k ≤ l.length → (srcB (l.take k)).length ≤ k
  | 0, _ => by simp [srcB]
  | k + 1, h => by
    rw [srcB_snoc l k (by omega)]
    have := srcStep_len (srcB (l.take k)) (l[k]'(by omega))
    have := srcB_len l k (by omega)
    omega
theorem srcB_good (l : List ByteArray) : (srcB l).Nodup ∧ waitN ∉ srcB l ∧ ∀ s, s ∈ srcB l → s ∈ l := by
  have key : ∀ (l out : List ByteArray), out.Nodup → waitN ∉ out → (l.foldl srcStep out).Nodup ∧ waitN ∉ l.foldl srcStep out ∧ ∀ s, s ∈ l.foldl srcStep out → s ∈ out ∨ s ∈ l := by
    intro l
    induction l with
    | nil => intro out h1 h2; exact ⟨h1, h2, fun s hs => .inl hs⟩
    | cons x l ih =>
      intro out h1 h2
      rw [List.foldl_cons]
      by_cases hx : x = waitN ∨ mem out x = true
      · have e : srcStep out x = out := by unfold srcStep; rw [if_pos hx]
        rw [e]
        obtain ⟨a, b, c⟩ := ih out h1 h2
        exact ⟨a, b, fun s hs => (c s hs).imp id (fun h => by simp [h])⟩
      · have e : srcStep out x = out ++ [x] := by unfold srcStep; rw [if_neg hx]
        rw [e]
        obtain ⟨a, b, c⟩ := ih (out ++ [x]) (by
          rw [List.nodup_append]
          refine ⟨h1, by simp, fun p hp q hq e => ?_⟩
          simp at hq
          exact hx (.inr ((mem_iff out x).2 (by rw [← hq, ← e]; exact hp)))) (by
          intro h
          rcases List.mem_append.1 h with h | h
          · exact h2 h
          · simp at h; exact hx (.inl h.symm))
        refine ⟨a, b, fun s hs => ?_⟩
        rcases c s hs with h | h
        · rcases List.mem_append.1 h with h | h
          · exact .inl h
          · simp at h; exact .inr (by simp [h])
        · exact .inr (by simp [h])
  obtain ⟨a, b, c⟩ := key l [] (by simp) (by simp)
  exact ⟨a, b, fun s hs => (c s hs).resolve_left (by simp)⟩
set_option maxHeartbeats 8000000 in
theorem sources_calls (V : Value) (l : List ByteArray) (w : World) (hV : Strs w V l) (hl : l.length ≤ 4000000) :
    Calls Try.prog 67 #[V] w fun e w' => ∃ v, e = .returned v ∧ Mem none_ w [StrRow v (srcB l)] w' := by
  obtain ⟨A, c, rfl, h1, h2, h3, h4⟩ := hV
  unfold maxLen at h2
  have K := keyStr (P := Try.prog) Try.underlying9
  have hmm := @run_makeMap Try.prog
  have HM0 := MapC.made (Mem.start (fp := none_) w) Value.string setV
  go_enter Try.func67, Try.ntmps67
  go_wp2_with (first | (refine wpList_put K Try.underlying61 rfl _ _ _ (.inr rfl) HM0 rfl waitN rfl () rfl ?_; intro w2 HM2 HU2; have HM2' := Lib.hid HM2; clear HM2 HU2 HM0))
  have HM3 : Hid (Mem none_ w [MapC w.heap.size Value.string setV [(waitN, ())], StrRow (.slice none 0 0) []] w2) := (Mem.nilS HM2'.out).sel [1, 0] (by decide)
  clear HM2'
  generalize w.heap.size = mb at *
  go_loopw [4, 11] (fun v4 v11 wr => ∃ (k : Nat) (m : List (ByteArray × Unit)), k ≤ l.length ∧ v11 = .int .i64 k ∧ Hid (∀ s, mhas m s = decide (s = waitN ∨ mem (srcB (l.take k)) s = true)) ∧ Mem none_ w [MapC mb Value.string setV m, StrRow v4 (srcB (l.take k))] wr) (fun _ v _ => l.length - (intOf v).toNat)
  case atStart =>
    refine ⟨0, _, Nat.zero_le _, rfl, fun s => ?_, HM3.out⟩
    unfold mhas
    rw [mget_cons]
    by_cases h : s = waitN
    · simp [h, srcB, mem]
    · simp [h, srcB, mem, mget_nil]
  case round =>
    clear HM3
    obtain ⟨k, m, hk, rfl, HI, HM⟩ := hrel
    by_cases hlt : k < l.length
    · have hlt' : decide ((k : Int) < (l.length : Int)) = true := decide_eq_true (by omega)
      have hltN : decide (k < l.length) = true := decide_eq_true hlt
      obtain ⟨b, o, rfl, hcells⟩ := h4.resolve_left (by omega)
      have x0 : wr.cell? ⟨b, o + k, none⟩ = some (.string l[k]) := Pure.cell HM.mu (hcells _ _ (strs_get hlt))
      have hsn := srcB_snoc l k hlt
      have hsl := srcB_len l k hk
      clear hcells h4 h3
      generalize l[k] = s at *
      generalize srcB (l.take k) = out at *
      have hmap := HM.at_ 0 rfl
      have hr : (if false = true then Value.tuple #[((mget m s).map setV).getD (.bool false), .bool (mhas m s)] else ((mget m s).map setV).getD (.bool false)) = .bool (mhas m s) := by rw [if_neg (by decide), set_get]
      by_cases hs : s = waitN ∨ mem out s = true
      · have hm : mhas m s = true := by rw [HI.out]; exact decide_eq_true hs
        have he : Hid (srcB (l.take (k + 1)) = out) := by unfold Hid; rw [hsn]; unfold srcStep; rw [if_pos hs]
        rw [hm] at hr
        clear hs hsn hm
        go_wp2_with (at_lookup; refine wpList_get K Try.underlying61 zeroB rfl _ _ false rfl hmap rfl s rfl _ hr ?_)
        go_roundw
        case rel => exact ⟨k + 1, m, by omega, by go_num, by rw [he.out]; exact HI, by rw [he.out]; exact HM⟩
        case measure => simp [intOf]; omega
      · have hm : mhas m s = false := by rw [HI.out]; exact decide_eq_false hs
        have he : Hid (srcB (l.take (k + 1)) = out ++ [s]) := by unfold Hid; rw [hsn]; unfold srcStep; rw [if_neg hs]
        have HI2 : Hid (∀ x, mhas (mput m s ()) x = decide (x = waitN ∨ mem (out ++ [s]) x = true)) := fun x => by
          unfold mhas
          rw [mget_put]
          by_cases hx : x = s
          · rw [if_pos hx]; simp [hx, mem]
          · rw [if_neg hx]
            have := HI.out x
            unfold mhas at this
            have e2 : mem (out ++ [s]) x = mem out x := by unfold mem; rw [List.any_append]; simp [hx]
            rw [this, e2]
        rw [hm] at hr
        clear hs hsn hm HI
        go_wp2_with (first | (at_lookup; refine wpList_get K Try.underlying61 zeroB rfl _ _ false rfl hmap rfl s rfl _ hr ?_) | (refine wpList_put K Try.underlying61 rfl _ _ _ (.inl rfl) HM rfl s rfl () rfl ?_; intro w2 HM2 HU2; have HM3 : Mem none_ w [StrRow _ out, MapC mb Value.string setV (mput m s ())] w2 := HM2.sel [1, 0] (by decide); clear HM2 HU2 HM hmap x0) | (at_builtin; refine wpList_appS strE rfl _ _ rfl HM3 rfl s _ rfl ?hnb ?hb ?_; (case hnb => simp); (case hb => omega); intro v' w4 HM4 HU4; have HM5 := Lib.hid (HM4.sel [1, 0] (by decide)); clear HM4 HU4 HM3))
        go_roundw
        case rel => exact ⟨k + 1, _, by omega, by go_num, by rw [he.out]; exact HI2, by rw [he.out]; exact HM5.out⟩
        case measure => simp [intOf]; omega
    · have hlt' : decide ((k : Int) < (l.length : Int)) = false := decide_eq_false (by omega)
      have hltN : decide (k < l.length) = false := decide_eq_false hlt
      have e : k = l.length := by omega
      subst e
      rw [List.take_length] at HM
      have HMe := Lib.hid (HM.sel [1] (by decide))
      clear HM HI
      go_wp2_with fail
      go_ret
      exact ⟨_, rfl, HMe.out⟩
end Go.Proofs.Ytliglejbkpjamaa
end
