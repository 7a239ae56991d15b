/-
  Layer 16 (graph): what the arguments of the statements read as.
  Layer 16 (graph): what rules, files and goals read as, with bounds by the bulk.
-/
import Derived.Test.YtliglejbkpjamaaRows
import Derived.Test.YtliglejbkpjamaaVOpen
import Derived.Test.YtliglejbkpjamaaVGrA
set_option linter.unusedVariables false
set_option linter.unusedSimpArgs false
namespace Go.Proofs.Ytliglejbkpjamaa
section
open Go.ChangeShapes Go.WideShapes Go.ChangeAt Go.RowKit
theorem own : ownKnob Try.prog.godebug = none := by kernel_rfl
theorem laidOut : laidOutB Try.prog = true := by kernel_rfl
theorem u8_range {n : Int} (h : (Lit.int .u8 n).wf = true) : 0 ≤ n ∧ n < 256 := by
  simp only [Lit.wf, Bool.and_eq_true, decide_eq_true_eq] at h
  have a : IntKind.u8.min = 0 := by rfl
  have b : IntKind.u8.max = 255 := by rfl
  rw [a, b] at h
  omega
end
section
set_option maxRecDepth 20000
open Go.ChangeShapes Go.WideShapes Go.ChangeAt Go.RowKit

theorem part_le {H : Type} {d : DataW H} {l : List (DataW H)} (h : d ∈ l) : Rows.uptoBulk d ≤ Rows.uptoBulkAll l := by
  induction l with
  | nil => cases h
  | cons x r ih =>
    simp only [Rows.uptoBulkAll]
    cases List.mem_cons.1 h with
    | inl e => subst e; omega
    | inr e => have := ih e; omega
theorem bulk_pos {H : Type} (d : DataW H) : 1 ≤ Rows.uptoBulk d := by
  cases d with
  | lit l => cases l <;> simp [Rows.uptoBulk]
  | _ => simp [Rows.uptoBulk]
theorem all_len {H : Type} : ∀ l : List (DataW H), l.length ≤ Rows.uptoBulkAll l
  | [] => Nat.zero_le _
  | d :: l => by
    simp only [Rows.uptoBulkAll, List.length_cons]
    have := bulk_pos d
    have := all_len l
    omega
/-- As Opens, for what is of bulk at most K. -/
def OpensK (K : Nat) (P : Program) (t : TypeId) (sz : Nat) {α : Type} (R : World → α → List Value → Prop) : Prop :=
  ∀ (H : Type) (enc : TypeId × Value → H) (w : World) (sp : Nat → Bool) (held : Bool) (fuel : Nat) (cs : List Value) (x : DataW H × List MemPlace), DataW.trod enc P w 0 sp held fuel t cs = some x → Light P t x.1 → Rows.uptoBulk x.1 ≤ K → cs.length = sz ∧ ∃ a, R w a cs
def SlK {α : Type} (K sz bytes : Nat) (R : World → α → List Value → Prop) (w : World) (l : List α) (cs : List Value) : Prop := SlR sz bytes R w l cs ∧ l.length ≤ K
theorem opensK_slice {K : Nat} {P : Program} {t e : TypeId} {sz bytes : Nat} {α : Type} {R : World → α → List Value → Prop} (ht : P.underlying t = some (.slice e)) (hc : P.cellsOf e = sz) (hsz : 0 < sz) (hb : P.bytesOf e = bytes) (he : OpensK K P e sz R) : OpensK K P t 1 (SlK K sz bytes R) := by
  intro H enc w sp held fuel cs x h hx hk
  rcases Go.Deep.open_slice ht h with ⟨rfl, _⟩ | ⟨a, len, cap, m, n, D, Pl, rfl, _, hle, hcap, hm, rfl, hel⟩
  · exact ⟨rfl, [], ⟨_, [], rfl, ⟨none, 0, rfl, Nat.le_refl _, Nat.zero_le _, by simp, .inl rfl⟩, by simp, fun i hi => by simp at hi⟩, Nat.zero_le _⟩
  · rw [hc] at hel
    have hlm : len ≤ m := by rw [hm]; split <;> omega
    have hwt : (len + (m - len)) * bytes ≤ 140737488351232 := by
      refine hx _ ?_
      simp [DataW.weights, ht, hb]
    have hbytes : len * bytes ≤ 140737488351232 := Nat.le_trans (Nat.mul_le_mul_right _ (by omega)) hwt
    have hlt : ∀ i, i < len → Light P e (D i) := by
      intro i hi n hn
      refine hx n ?_
      simp only [DataW.weights, ht, List.mem_cons, List.mem_append]
      exact .inr (.inl (weightsAll_mem (List.mem_map.2 ⟨i, List.mem_range.2 hi, rfl⟩) hn))
    simp only [Rows.uptoBulk] at hk
    have hkl : ∀ i, i < len → Rows.uptoBulk (D i) ≤ K := by
      intro i hi
      have := part_le (d := D i) (l := (List.range len).map D) (List.mem_map.2 ⟨i, List.mem_range.2 hi, rfl⟩)
      omega
    have hlk : len ≤ K := by
      have := all_len ((List.range len).map D)
      rw [List.length_map, List.length_range] at this
      omega
    rcases Nat.eq_zero_or_pos len with h0 | h0
    · subst h0
      exact ⟨rfl, [], ⟨_, [], rfl, ⟨some a, cap, rfl, hle, hcap, by simp, .inl rfl⟩, by simp, fun i hi => by simp at hi⟩, Nat.zero_le _⟩
    · obtain ⟨cs0, hc0, hd0⟩ := hel 0 (by omega)
      obtain ⟨_, hl0, hr0⟩ := World.cells?_some hc0
      have ha : a = ⟨a.block, a.off, none⟩ := by
        have h1 := hr0 0 hsz
        rw [Nat.zero_mul] at h1
        have e1 : (a.add 0).add 0 = a := by unfold Addr.add; simp
        rw [e1, List.getElem?_eq_getElem (by omega)] at h1
        exact addr_of_cell h1
      have key : ∀ n', n' ≤ len → ∃ (l : List α) (cells : List Value), l.length = n' ∧ cells.length = n' * sz ∧ (∀ j u, cells[j]? = some u → w.cell? ⟨a.block, a.off + j, none⟩ = some u) ∧ ∀ i (h : i < l.length), R w l[i] ((cells.drop (i * sz)).take sz) := by
        intro n'
        induction n' with
        | zero => intro _; exact ⟨[], [], rfl, by simp, fun j u hu => by simp at hu, fun i hi => by simp at hi⟩
        | succ n' ih =>
          intro hn
          obtain ⟨l, cells, e1, e2, e3, e4⟩ := ih (by omega)
          obtain ⟨cs', hc', hd'⟩ := hel n' (by omega)
          obtain ⟨_, hl', hr'⟩ := World.cells?_some hc'
          obtain ⟨_, y, hy⟩ := he H enc w sp held _ _ _ hd' (hlt n' (by omega)) (hkl n' (by omega))
          refine ⟨l ++ [y], cells ++ cs', by simp [e1], by simp [e2, hl', Nat.add_mul], fun j u hu => ?_, fun i hi => ?_⟩
          · rcases Nat.lt_or_ge j cells.length with hj | hj
            · rw [List.getElem?_append_left hj] at hu; exact e3 j u hu
            · rw [List.getElem?_append_right hj] at hu
              have hjl : j - cells.length < cs'.length := (List.getElem?_eq_some_iff.1 hu).1
              have h2 := hr' (j - cells.length) (by omega)
              rw [ha, add_none, add_none] at h2
              rw [hu] at h2
              rw [show a.off + j = a.off + n' * sz + (j - cells.length) from by omega]
              exact h2
          · rcases Nat.lt_or_ge i l.length with hj | hj
            · rw [List.getElem_append_left hj]
              have h5 : (i + 1) * sz ≤ cells.length := by rw [e2]; exact Nat.mul_le_mul_right _ (by omega)
              have h6 : i * sz + sz ≤ cells.length := by rw [Nat.add_mul] at h5; omega
              rw [List.drop_append_of_le_length (by omega), List.take_append_of_le_length (by rw [List.length_drop]; omega)]
              exact e4 i hj
            · have hi' : i = n' := by simp at hi; omega
              subst hi'
              have e5 : i * sz = cells.length := e2.symm
              rw [List.getElem_append_right hj]
              have e6 : i - l.length = 0 := by omega
              simp only [e6, List.getElem_cons_zero]
              rw [e5, List.drop_left, List.take_of_length_le (by omega)]
              exact hy
      obtain ⟨l, cells, e1, e2, e3, e4⟩ := key len (Nat.le_refl _)
      subst e1
      exact ⟨rfl, l, ⟨_, cells, rfl, ⟨some a, cap, rfl, hle, hcap, e2, .inr ⟨a.block, a.off, by rw [← ha], e3⟩⟩, hbytes, e4⟩, hlk⟩
def StrK (K : Nat) (_ : World) (s : ByteArray) (cs : List Value) : Prop := (cs = [.string s] ∧ s.size ≤ 140737488351232) ∧ s.size ≤ K
theorem opensK_str {K : Nat} {P : Program} {t : TypeId} (ht : P.underlying t = some .string) : OpensK K P t 1 (StrK K) := by
  intro H enc w sp held fuel cs x h hx hk
  obtain ⟨s, rfl, rfl, hs⟩ := DataW.trod_string ht h
  have h1 := hx s.data.toList.length (by simp [DataW.weights])
  rw [Array.length_toList] at h1
  simp only [Rows.uptoBulk, Array.length_toList] at hk
  exact ⟨rfl, s, ⟨rfl, h1⟩, Nat.le_trans (Nat.le_succ _) hk⟩
def IntK (_ : World) (n : Int) (cs : List Value) : Prop := cs = [.int .i64 n]
theorem opensK_int {K : Nat} {P : Program} {t : TypeId} (ht : P.underlying t = some (.int .i64)) : OpensK K P t 1 IntK := by
  intro H enc w sp held fuel cs x h hx _
  obtain ⟨n, rfl, rfl, hn⟩ := DataW.trod_int ht h
  exact ⟨rfl, n, rfl⟩
theorem opensK_field {K : Nat} {P : Program} {t : TypeId} {fs : Array Field} {sz : Nat} {α : Type} {R : World → α → List Value → Prop} (ht : P.underlying t = some (.struct fs)) {H : Type} {enc : TypeId × Value → H} {w : World} {sp : Nat → Bool} {held : Bool} {fuel : Nat} {cs : List Value} {x : DataW H × List MemPlace}
    (h : DataW.trod enc P w 0 sp held fuel t cs = some x) (hl : Light P t x.1) (hk : Rows.uptoBulk x.1 ≤ K) (i : Nat) {f : Field} (hf : fs[i]? = some f) (hc : P.cellsOf f.type = sz) (ho : OpensK K P f.type sz R) : ∃ a, R w a ((cs.drop f.offset).take sz) := by
  obtain ⟨xs, n, rfl, rfl, hlen, hxs, hall⟩ := DataW.trod_struct ht h
  have h1 := hall i f hf
  have hi : i < xs.length := by rw [hxs]; exact (Array.getElem?_eq_some_iff.1 hf).1
  rw [List.getElem?_eq_getElem hi, hc] at h1
  refine (ho H enc w sp held n _ _ h1 (fun m hm => hl m (by
    simp only [DataW.weights, ht]
    exact DataW.weights_mem_each (j := i) (by simpa using (by rw [List.getElem?_map, Array.getElem?_toList, hf]; rfl : (fs.toList.map (·.type))[i]? = some f.type)) (by simp [hi]) m hm)) ?_).2
  simp only [Rows.uptoBulk] at hk
  have := part_le (d := (xs[i]).1) (l := xs.map (·.1)) (List.mem_map_of_mem (List.getElem_mem hi))
  omega
theorem SlK.strs {K : Nat} {w : World} {l : List ByteArray} {cs : List Value} (h : SlK K 1 16 (StrK K) w l cs) : ∃ v, cs = [v] ∧ Strs w v l ∧ l.length ≤ K ∧ ∀ x, x ∈ l → x.size ≤ K := by
  obtain ⟨⟨v, cells, rfl, hs, hby, hr⟩, hk⟩ := h
  have h2 : SlR 1 16 StrR w l [v] := ⟨v, cells, rfl, hs, hby, fun i hi => (hr i hi).1⟩
  obtain ⟨v', e, hS, _, _⟩ := SlR.strs h2
  cases e
  exact ⟨v, rfl, hS, hk, fun x hx => by
    obtain ⟨i, hi, rfl⟩ := List.getElem_of_mem hx
    exact (hr i hi).2⟩
theorem opK_strs (K : Nat) : OpensK K Try.prog 23 1 (SlK K 1 16 (StrK K)) := opensK_slice Try.underlying23 (by kernel_rfl) (by omega) (by kernel_rfl) (opensK_str Try.underlying9)
/-- A rule, with bounds. -/
def RuleK (K : Nat) (w : World) (r : RuleS) (cs : List Value) : Prop := RuleR w r cs ∧ r.cmd.length ≤ K ∧ (∀ t, t ∈ r.tg → t.size ≤ K) ∧ ∀ x, x ∈ r.src → x.size ≤ K
theorem opK_rule (K : Nat) : OpensK K Try.prog 25 5 (RuleK K) := by
  intro H enc w sp held fuel cs x h hx hk
  have ht := Try.underlying25
  have hc : cs.length = 5 := by
    obtain ⟨_, _, _, _, hl, _⟩ := DataW.trod_struct ht h
    rw [hl]; kernel_rfl
  obtain ⟨a0, h0⟩ := opensK_field ht h hx hk 0 rfl (by kernel_rfl) (opK_strs K)
  obtain ⟨a1, h1⟩ := opensK_field ht h hx hk 1 rfl (by kernel_rfl) (opensK_int Try.underlying3)
  obtain ⟨a2, h2⟩ := opensK_field ht h hx hk 2 rfl (by kernel_rfl) (opK_strs K)
  obtain ⟨a3, h3⟩ := opensK_field ht h hx hk 3 rfl (by kernel_rfl) (opK_strs K)
  obtain ⟨a4, h4⟩ := opensK_field ht h hx hk 4 rfl (by kernel_rfl) (opensK_int Try.underlying3)
  obtain ⟨v0, e0, s0, b0, z0⟩ := h0.strs
  obtain ⟨v2, e2, s2, b2, z2⟩ := h2.strs
  obtain ⟨v3, e3, s3, b3, z3⟩ := h3.strs
  unfold IntK at h1 h4
  refine ⟨hc, ⟨a0, a1, a2, a3, a4⟩, ⟨v0, v2, v3, ?_, s0, s2, s3⟩, b3, z0, z2⟩
  match cs, hc with
  | [c0, c1, c2, c3', c4], _ =>
    simp at e0 h1 e2 e3 h4
    subst e0 h1 e2 e3 h4
    rfl
theorem opK_rules (K : Nat) : OpensK K Try.prog 22 1 (SlK K 5 88 (RuleK K)) := opensK_slice Try.underlying22 (by kernel_rfl) (by omega) (by kernel_rfl) (opK_rule K)
section
variable {K : Nat} {w : World} {H : Type} {enc : TypeId × Value → H} {d : DataW H} {ps : List MemPlace} {base : Nat}
theorem op_rules {v : Value} (h : DataW.Trod enc Try.prog w 0 (fun _ => true) true 22 v d ps) (hv : Value.okWide Try.prog w .any base 22 v) (hl : Light Try.prog 22 d) (hk : Rows.uptoBulk d ≤ K) :
    ∃ l, Rules w v l ∧ ∀ r, r ∈ l → r.cmd.length ≤ K ∧ (∀ t, t ∈ r.tg → t.size ≤ K) ∧ ∀ x, x ∈ r.src → x.size ≤ K := by
  obtain ⟨ad, ln, cp, rfl⟩ := okWide_slice Try.underlying22 hv
  obtain ⟨fuel, hf⟩ := h
  obtain ⟨_, l, ⟨v', cells, e, hs, hby, hr⟩, _⟩ := opK_rules K _ _ _ _ _ _ _ _ hf hl hk
  have e : v' = .slice ad ln cp := by simpa [Value.cells] using e.symm
  subst e
  exact ⟨l, ⟨cells, hs, fun i hi => (hr i hi).1⟩, fun r hr2 => by
    obtain ⟨i, hi, rfl⟩ := List.getElem_of_mem hr2
    exact (hr i hi).2⟩
theorem opK_texts {v : Value} (h : DataW.Trod enc Try.prog w 0 (fun _ => true) true 23 v d ps) (hv : Value.okWide Try.prog w .any base 23 v) (hl : Light Try.prog 23 d) (hk : Rows.uptoBulk d ≤ K) :
    ∃ l, Strs w v l ∧ l.length ≤ K ∧ ∀ x, x ∈ l → x.size ≤ K := by
  obtain ⟨ad, ln, cp, rfl⟩ := okWide_slice Try.underlying23 hv
  obtain ⟨fuel, hf⟩ := h
  obtain ⟨_, l, hs⟩ := opK_strs K _ _ _ _ _ _ _ _ hf hl hk
  obtain ⟨v', e, hS, hlk, hz⟩ := hs.strs
  have e : v' = .slice ad ln cp := by simpa [Value.cells] using e.symm
  subst e
  exact ⟨l, hS, hlk, hz⟩
end
end
end Go.Proofs.Ytliglejbkpjamaa
