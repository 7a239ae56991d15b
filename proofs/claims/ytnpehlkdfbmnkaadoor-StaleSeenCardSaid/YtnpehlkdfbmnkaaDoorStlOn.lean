/-
  Layer 18 (stale): what nodes, files and numbers as arguments read as.
-/
import Derived.Test.YtnpehlkdfbmnkaaDoorStlR
import Derived.Test.YtnpehlkdfbmnkaaDoorStlFa
set_option linter.unusedVariables false
set_option linter.unusedSimpArgs false
set_option maxRecDepth 20000
namespace Go.Proofs.YtnpehlkdfbmnkaaDoor
open Go.ChangeShapes Go.WideShapes Go.ChangeAt Go.RowKit
theorem u8_range {n : Int} (h : (Lit.int .u8 n).wf = true) : 0 ≤ n ∧ n < 256 := by
  simp only [Lit.wf, Bool.and_eq_true, decide_eq_true_eq] at h
  have a : IntKind.u8.min = 0 := by rfl
  have b : IntKind.u8.max = 255 := by rfl
  rw [a, b] at h
  omega
def encU (n : Int) : List Value := [.int .u8 n]
abbrev U8s (w : World) (v : Value) (l : List Int) : Prop := Sl w v 1 l.length (l.flatMap encU)
def encF (t : ByteArray × ByteArray) : List Value := [.string t.1, .string t.2]
def FileR (_ : World) (t : ByteArray × ByteArray) (cs : List Value) : Prop := cs = encF t ∧ (t.1.size ≤ 140737488351232 ∧ t.2.size ≤ 140737488351232)
theorem op_file : Opens Tryd.prog 76 2 FileR :=
  (opens_struct2 (P := Tryd.prog) (s0 := 1) (s1 := 1) Tryd.underlying76 rfl rfl (by kernel_rfl) (by kernel_rfl) (by kernel_rfl) (opens_str Tryd.underlying9) (opens_str Tryd.underlying9)).imp id fun w p cs hl h => by
    match cs, hl with
    | [u, v], _ =>
      obtain ⟨⟨h1, h4⟩, ⟨h2, h3⟩⟩ := h
      simp at h1 h2
      exact ⟨by simp [encF, h1, h2], h4, h3⟩
theorem op_fls : Opens Tryd.prog 25 1 (SlR 2 32 FileR) := opens_slice Tryd.underlying25 (by kernel_rfl) (by omega) (by kernel_rfl) op_file
def fil' (t : ByteArray × ByteArray) : List UInt8 × List UInt8 := (toL t.1, toL t.2)
theorem fil_flat (l : List (ByteArray × ByteArray)) : l.flatMap encF = prf (l.map fil') := by
  unfold prf
  rw [List.flatMap_map]
  have e : encF = fun t => [.string (ofL (fil' t).1), .string (ofL (fil' t).2)] := by
    funext t
    unfold encF fil'
    simp only [of_toL]
  rw [e]
/-- A node. -/
def NodeR (w : World) (x : NdS × Value × Value × Value × ByteArray × Bool × Bool × Bool) (cs : List Value) : Prop := cs = (ndC x.1 x.2.1 x.2.2.1 x.2.2.2.1 x.2.2.2.2.1 x.2.2.2.2.2.1 x.2.2.2.2.2.2.1 x.2.2.2.2.2.2.2).toList ∧ NodeO w x.1 x.2.1 x.2.2.1 x.2.2.2.1
theorem op_nd : Opens Tryd.prog 24 10 NodeR := by
  intro H enc w sp held fuel cs x h hx
  have ht := Tryd.underlying24
  have hc : cs.length = 10 := by
    obtain ⟨_, _, _, _, hl, _⟩ := DataW.trod_struct ht h
    rw [hl]; kernel_rfl
  obtain ⟨a0, h0⟩ := opens_field ht h hx 0 rfl (by kernel_rfl) (opens_str Tryd.underlying9)
  obtain ⟨a1, h1⟩ := opens_field ht h hx 1 rfl (by kernel_rfl) (opens_int Tryd.underlying3)
  obtain ⟨a2, h2⟩ := opens_field ht h hx 2 rfl (by kernel_rfl) op_strs
  obtain ⟨a3, h3⟩ := opens_field ht h hx 3 rfl (by kernel_rfl) op_strs
  obtain ⟨a4, h4⟩ := opens_field ht h hx 4 rfl (by kernel_rfl) op_strs
  obtain ⟨a5, h5⟩ := opens_field ht h hx 5 rfl (by kernel_rfl) (opens_str Tryd.underlying9)
  obtain ⟨a6, h6⟩ := opens_field ht h hx 6 rfl (by kernel_rfl) (opens_bool Tryd.underlying4)
  obtain ⟨a7, h7⟩ := opens_field ht h hx 7 rfl (by kernel_rfl) (opens_bool Tryd.underlying4)
  obtain ⟨a8, h8⟩ := opens_field ht h hx 8 rfl (by kernel_rfl) (opens_bool Tryd.underlying4)
  obtain ⟨a9, h9⟩ := opens_field ht h hx 9 rfl (by kernel_rfl) (opens_bool Tryd.underlying4)
  obtain ⟨v2, e2, s2, b2, l2⟩ := SlR.strs h2
  obtain ⟨v3, e3, s3, b3, _⟩ := SlR.strs h3
  obtain ⟨v4, e4, s4, b4, _⟩ := SlR.strs h4
  obtain ⟨A3, c3, rfl, _⟩ := s3
  obtain ⟨A4, c4, rfl, _⟩ := s4
  have e0 := h0.1
  have b0 := h0.2
  have e1 := h1.1
  have e5 := h5.1
  unfold BoolR at h6 h7 h8 h9
  refine ⟨hc, ⟨⟨toL a0, a1, a2.map toL, a3.length, a6⟩, v2, .slice A3 a3.length c3, .slice A4 a4.length c4, a5, a7, a8, a9⟩, ?_, ⟨strs_toL a2 s2, ⟨_, _, rfl, by show a3.length ≤ _; omega⟩, ⟨_, _, _, rfl⟩, by show (toL a0).length ≤ _; rw [toL_len]; exact b0, fun x hx => ?_⟩⟩
  · match cs, hc with
    | [c0, c1, c2, c3', c4', c5, c6, c7, c8, c9], _ =>
      simp at e0 e1 e2 e3 e4 e5 h6 h7 h8 h9
      subst e0 e1 e2 e3 e4 e5 h6 h7 h8 h9
      simp [ndC, of_toL]
  · obtain ⟨y, hy, rfl⟩ := List.mem_map.1 hx
    rw [toL_len]; exact l2 y hy
section
variable {w : World} {H : Type} {enc : TypeId × Value → H} {d : DataW H} {ps : List MemPlace} {base : Nat}
theorem op_node {v : Value} (h : DataW.Trod enc Tryd.prog w 0 (fun _ => true) true 24 v d ps) (hv : Value.okWide Tryd.prog w .any base 24 v) (hl : Light Tryd.prog 24 d) :
    ∃ n SV CV AV im b1 b2 b3, v = .agg (ndC n SV CV AV im b1 b2 b3) ∧ NodeO w n SV CV AV := by
  obtain ⟨fuel, hf⟩ := h
  obtain ⟨cs, rfl, hcs⟩ := okWide_struct Tryd.underlying24 hv
  obtain ⟨hlen, ⟨n, SV, CV, AV, im, b1, b2, b3⟩, e, o⟩ := op_nd _ _ _ _ _ _ _ _ hf hl
  refine ⟨n, SV, CV, AV, im, b1, b2, b3, ?_, o⟩
  have e' : cs.toList = (ndC n SV CV AV im b1 b2 b3).toList := e
  rw [Array.toList_inj.1 e']
theorem op_files {v : Value} (h : DataW.Trod enc Tryd.prog w 0 (fun _ => true) true 25 v d ps) (hv : Value.okWide Tryd.prog w .any base 25 v) (hl : Light Tryd.prog 25 d) :
    ∃ l, FilesR w v l ∧ l.length ≤ 140737488351232 ∧ ∀ x, x ∈ l → x.1.length ≤ 140737488351232 ∧ x.2.length ≤ 140737488351232 := by
  obtain ⟨ad, ln, cp, rfl⟩ := okWide_slice Tryd.underlying25 hv
  obtain ⟨fuel, hf⟩ := h
  obtain ⟨_, s, hs⟩ := op_fls _ _ _ _ _ _ _ _ hf hl
  obtain ⟨SV, eS, hS, hb, hr⟩ := SlR.flat (Q := fun t => t.1.size ≤ 140737488351232 ∧ t.2.size ≤ 140737488351232) (enc := encF) (fun _ => rfl) (fun _ _ _ h => h) hs
  have e : SV = .slice ad ln cp := by simpa [Value.cells] using eS.symm
  subst e
  refine ⟨s.map fil', ?_, by rw [List.length_map]; omega, fun x hx => ?_⟩
  · unfold FilesR
    rw [List.length_map, ← fil_flat]; exact hS
  · obtain ⟨y, hy, rfl⟩ := List.mem_map.1 hx
    show (toL y.1).length ≤ _ ∧ (toL y.2).length ≤ _
    rw [toL_len, toL_len]; exact hr y hy
theorem op_u8 {v : Value} (h : DataW.Trod enc Tryd.prog w 0 (fun _ => true) true 5 v d ps) (hv : Value.okWide Tryd.prog w .any base 5 v) :
    ∃ u : Nat, v = .int .u8 (u : Int) ∧ u < 256 := by
  obtain ⟨fuel, hf⟩ := h
  obtain ⟨n, e1, _, hw⟩ := DataW.trod_int Tryd.underlying5 hf
  obtain ⟨h0, h1⟩ := u8_range hw
  obtain ⟨m, rfl⟩ := okWide_int Tryd.underlying5 hv
  simp [Value.cells] at e1
  subst e1
  exact ⟨m.toNat, by rw [Int.toNat_of_nonneg h0], by omega⟩
end
end Go.Proofs.YtnpehlkdfbmnkaaDoor
