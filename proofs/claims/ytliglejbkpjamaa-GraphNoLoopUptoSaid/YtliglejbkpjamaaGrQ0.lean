/-
  Layer 16 (graph): what behind wants: Sort and Compact of texts, nodes taken apart.
-/
import Derived.Test.YtliglejbkpjamaaGrP
import Derived.Test.YtliglejbkpjamaaPthSs
import Derived.Sort.OwnSorted
set_option linter.unusedVariables false
set_option linter.unusedSimpArgs false
set_option maxRecDepth 20000
namespace Go.Proofs.Ytliglejbkpjamaa
open Go.RowKit Go.Sort Go.Proofs

/-- A row's first ones. -/
theorem row_take {e size n c k : Nat} {A : Option Addr} {cells : List Value} {w : World} (h : (Row e size (.slice A n c) n cells).ok w) (hk : k ≤ n) : (Row e size (.slice A k c) k (cells.take (k * size))).ok w := by
  obtain ⟨h1, h2⟩ := h
  have hks : k * size ≤ n * size := Nat.mul_le_mul_right _ hk
  refine ⟨by rw [List.length_take, h1]; omega, ?_⟩
  rcases h2 with ⟨e1, e2⟩ | ⟨g, cap, cur, e1, hg, hh, hle, hcap, hsz, htk⟩
  · cases e1
    exact .inl ⟨by rw [show k = 0 from by omega], by omega⟩
  · cases e1
    refine .inr ⟨g, c, cur, rfl, hg, hh, by omega, hcap, hsz, ?_⟩
    rw [← htk, List.take_take, Nat.min_eq_left hks]
theorem Mem.rowTake {fp : Nat → Prop} {w0 w : World} {F : List Chunk} {e size n c k : Nat} {A : Option Addr} {cells : List Value} (h : Mem fp w0 (Row e size (.slice A n c) n cells :: F) w) (hk : k ≤ n) : Mem fp w0 (Row e size (.slice A k c) k (cells.take (k * size)) :: F) w :=
  h.swap_ (row_take h.head hk) (fun b hb => by
    have hb : Value.ownBlock (.slice A k c) = some b := hb
    show Value.ownBlock (.slice A n c) = some b
    cases A <;> exact hb)
theorem strs_take1 (l : List ByteArray) (k : Nat) : strs (l.take k) = (strs l).take (k * 1) := by rw [Nat.mul_one]; unfold strs; rw [List.map_take]
theorem Mem.strTake {fp : Nat → Prop} {w0 w : World} {F : List Chunk} {n c k : Nat} {A : Option Addr} {l : List ByteArray} (h : Mem fp w0 (StrRow (.slice A n c) l :: F) w) (hk : k ≤ l.length) : Mem fp w0 (StrRow (.slice A k c) (l.take k) :: F) w := by
  obtain ⟨A', c', e, _⟩ := Row.any_ h.head
  have hn : n = l.length := by cases e; rfl
  subst hn
  have := h.rowTake hk
  unfold StrRow
  rw [strs_take1, List.length_take, Nat.min_eq_left hk]
  exact this
def bl (l : List ByteArray) : List (List UInt8) := l.map fun b => b.data.toList
def lb (l : List (List UInt8)) : List ByteArray := l.map fun b => ⟨b.toArray⟩
theorem lb_bl (l : List ByteArray) : lb (bl l) = l := by
  unfold lb bl
  rw [List.map_map]
  conv => rhs; rw [← List.map_id l]
  rfl
theorem enc_lb (l : List (List UInt8)) : strs (lb l) = l.map encStr := by simp [strs, lb]
theorem enc_bl (l : List ByteArray) : (bl l).map encStr = strs l := by rw [← enc_lb, lb_bl]
theorem bl_len (l : List ByteArray) : (bl l).length = l.length := by simp [bl]
theorem sort_calls {fp : Nat → Prop} {w0 w : World} {F : List Chunk} {v : Value} {l : List ByteArray} (HM : Mem fp w0 (StrRow v l :: F) w) (hl : l.length ≤ 100000000) :
    Calls Try.prog 51 #[v] w fun e w' => e = .returned (.tuple #[]) ∧ ∃ l', l'.Perm l ∧ Mem fp w0 (StrRow v l' :: F) w' := by
  have hown : w.ownsRow 0 9 1 v l.length (strs l) := HM.head
  rcases hown.2 with ⟨rfl, h0⟩ | ⟨g, cap, cur, rfl, hb, hg, h1, h2, h3, h4⟩
  · refine (Try.slices_Sort_string_none none 0 w).mono ?_
    rintro e w' ⟨rfl, rfl⟩
    exact ⟨rfl, l, .refl _, HM⟩
  · by_cases h0 : l.length = 0
    · have e0 : l = [] := List.length_eq_zero_iff.1 h0
      subst e0
      refine (Try.slices_Sort_string_none (some ⟨g, 0, none⟩) cap w).mono ?_
      rintro e w' ⟨rfl, rfl⟩
      exact ⟨rfl, [], .refl _, HM⟩
    · rw [← enc_bl, Nat.mul_one] at h4
      rw [← bl_len l] at h4 h1
      have hC := Try.slices_Sort_string g 0 cap (bl l) w (holds_of_block hg h4) (Array.getElem?_eq_some_iff.1 hg).1 (by rw [bl_len]; omega)
      rw [bl_len] at hC
      refine hC.mono ?_
      rintro e w' ⟨rfl, n, os, rfl⟩
      have hp : ((bl l).mergeSort fun x y => decide (x ≤ y)).Perm (bl l) := List.mergeSort_perm _ _
      generalize (bl l).mergeSort (fun x y => decide (x ≤ y)) = t at *
      have hlt : (lb t).length = l.length := by rw [show (lb t).length = t.length from by simp [lb], hp.length_eq, bl_len]
      refine ⟨rfl, lb t, ?_, HM.turn (Mut.mono (Mut.of_grown (grownBy_sorted _)) (fun k _ hk => hk)) ?_ (fun b hb => .inl hb)⟩
      · have := hp.map (fun b : List UInt8 => (⟨b.toArray⟩ : ByteArray))
        have e : (bl l).map (fun b : List UInt8 => (⟨b.toArray⟩ : ByteArray)) = l := lb_bl l
        rw [e] at this
        exact this
      · have := ownsRow_sorted (w := w) (base := 0) (g := g) (cap := cap) (n := n) (e := 9) (os := os) (ss := bl l) (ts := t) hp.length_eq (Nat.zero_le _) hg h1 h2 h3
        show World.ownsRow _ 0 9 1 _ (lb t).length (strs (lb t))
        rw [enc_lb, hlt]
        rw [bl_len] at this
        exact this
theorem compact_sub (zs : List (List UInt8)) : (∀ x, x ∈ Lib.compact zs → x ∈ zs) ∧ (Lib.compact zs).length ≤ zs.length := by
  have key : ∀ m, m ≤ zs.length → (∀ x, x ∈ Lib.compactUpTo zs.toArray m → x ∈ zs) ∧ (Lib.compactUpTo zs.toArray m).length ≤ m := by
    intro m
    induction m with
    | zero => intro _; simp [Lib.compactUpTo]
    | succ m ih =>
      intro hm
      obtain ⟨a, b⟩ := ih (by omega)
      rw [Lib.compactUpTo_succ]
      refine ⟨fun x hx => ?_, ?_⟩
      · rcases List.mem_append.1 hx with hx | hx
        · exact a x hx
        · split at hx
          · rw [List.mem_singleton] at hx
            rw [hx]
            have : zs.toArray[m]! = zs[m]'(by omega) := by simp [show m < zs.length from by omega]
            rw [this]
            exact List.getElem_mem _
          · cases hx
      · rw [List.length_append]
        split
        · simp; omega
        · simp; omega
  exact key zs.length (Nat.le_refl _)
theorem compact_calls {fp : Nat → Prop} {w0 w : World} {F : List Chunk} {v : Value} {l : List ByteArray} (HM : Mem fp w0 (StrRow v l :: F) w) :
    Calls Try.prog 52 #[v] w fun e w' => ∃ v' l', e = .returned v' ∧ (∀ x, x ∈ l' → x ∈ l) ∧ l'.length ≤ l.length ∧ Mem fp w0 (StrRow v' l' :: F) w' := by
  have hown : w.ownsRow 0 9 1 v l.length (strs l) := HM.head
  rcases hown.2 with ⟨rfl, h0⟩ | ⟨g, cap, cur, rfl, hb, hg, h1, h2, h3, h4⟩
  · refine (Try.slices_Compact_string_empty none 0 w).mono ?_
    rintro e w' ⟨rfl, rfl⟩
    exact ⟨_, l, rfl, fun _ h => h, Nat.le_refl _, HM⟩
  · by_cases h0 : l.length = 0
    · have e0 : l = [] := List.length_eq_zero_iff.1 h0
      subst e0
      refine (Try.slices_Compact_string_empty (some ⟨g, 0, none⟩) cap w).mono ?_
      rintro e w' ⟨rfl, rfl⟩
      exact ⟨_, [], rfl, fun _ h => h, Nat.le_refl _, HM⟩
    · rw [← enc_bl, Nat.mul_one] at h4
      rw [← bl_len l] at h4 h1
      unfold maxLen at h2
      have hC := Try.slices_Compact_string g 0 cap (bl l) w (holds_of_block hg h4) (by omega) h1
      rw [bl_len] at hC
      refine hC.mono ?_
      rintro e w' ⟨rfl, q, rfl⟩
      obtain ⟨s1, s2⟩ := compact_sub (bl l)
      generalize hcz : Lib.compact (bl l) = z at *
      rw [bl_len] at s2 h1
      have ez : grow (putRow encStr (Sort.ahead w q) g 0 (z ++ List.replicate (l.length - z.length) []).toArray) #[] = putRow encStr (Sort.ahead w q) g 0 (z ++ List.replicate (l.length - z.length) []).toArray := by
        unfold grow; simp; rfl
      have hll : (lb z).length = z.length := by simp [lb]
      refine ⟨_, lb z, rfl, fun x hx => ?_, by rw [hll]; exact s2, ?_⟩
      · obtain ⟨y, hy, rfl⟩ := List.mem_map.1 hx
        obtain ⟨u, hu, rfl⟩ := List.mem_map.1 (s1 y hy)
        exact hu
      · have hlen : (z ++ List.replicate (l.length - z.length) []).length = (bl l).length := by rw [List.length_append, List.length_replicate, bl_len]; omega
        have hm : Mem fp w0 (Row 9 1 (.slice (some ⟨g, 0, none⟩) l.length cap) l.length ((z ++ List.replicate (l.length - z.length) []).map encStr) :: F) (putRow encStr (Sort.ahead w q) g 0 (z ++ List.replicate (l.length - z.length) []).toArray) := by
          rw [← ez]
          refine HM.turn (Mut.mono (Mut.of_grown (grownBy_sorted _)) (fun k _ hk => hk)) ?_ (fun b hb => .inl hb)
          have := ownsRow_sorted (w := w) (base := 0) (g := g) (cap := cap) (n := q) (e := 9) (os := #[]) (ss := bl l) (ts := z ++ List.replicate (l.length - z.length) []) hlen (Nat.zero_le _) hg (by rw [bl_len]; exact h1) (by unfold maxLen; omega) h3
          rw [bl_len] at this
          exact this
        have hm2 := hm.rowTake (k := z.length) s2
        rw [Nat.mul_one, List.map_append, List.take_append_of_le_length (by simp), List.take_of_length_le (by simp)] at hm2
        show Mem fp w0 (Row 9 1 _ (lb z).length (strs (lb z)) :: F) _
        rw [enc_lb, hll]
        exact hm2

def strip (n : NodeS) : NodeS := { n with aft := [] }
/-- What holds of the nodes on the way: they differ from the first ones in After alone. -/
structure AOk (s0 : List NodeS) (K : Nat) (xs : List NX) : Prop where
  same : xs.map (fun x => strip x.nd) = s0.map strip
  in_ : ∀ x, x ∈ xs → ∀ y, y ∈ x.nd.aft → y ∈ s0.map NodeS.name
  len : ∀ x, x ∈ xs → x.nd.aft.length ≤ K
theorem AOk.names {s0 : List NodeS} {K : Nat} {xs : List NX} (h : AOk s0 K xs) : xs.map (fun x => x.nd.name) = s0.map NodeS.name := by
  have := congrArg (List.map NodeS.name) h.same
  rw [List.map_map, List.map_map] at this
  exact this
theorem AOk.size {s0 : List NodeS} {K : Nat} {xs : List NX} (h : AOk s0 K xs) : xs.length = s0.length := by
  have := congrArg List.length h.same
  simpa using this
theorem AOk.mono {s0 : List NodeS} {K K' : Nat} {xs : List NX} (h : AOk s0 K xs) (hK : K ≤ K') : AOk s0 K' xs := ⟨h.same, h.in_, fun x hx => Nat.le_trans (h.len x hx) hK⟩
def NX.aft (x : NX) (AV : Value) (a : List ByteArray) : NX := ⟨x.SV, x.CV, AV, { x.nd with aft := a }⟩
theorem AOk.set {s0 : List NodeS} {K K' : Nat} {xs : List NX} (h : AOk s0 K xs) (hK : K ≤ K') {i : Nat} (hi : i < xs.length) (AV : Value) {a : List ByteArray} (ha : ∀ y, y ∈ a → y ∈ s0.map NodeS.name) (hl : a.length ≤ K') : AOk s0 K' (xs.set i (xs[i].aft AV a)) := by
  refine ⟨?_, fun x hx => ?_, fun x hx => ?_⟩
  · rw [← h.same, List.map_set]
    refine List.ext_getElem? fun j => ?_
    rw [List.getElem?_set]
    split
    · rename_i e
      subst e
      rw [List.length_map, if_pos hi, List.getElem?_map, List.getElem?_eq_getElem hi]
      rfl
    · rfl
  · rcases List.mem_or_eq_of_mem_set hx with hx | rfl
    · exact h.in_ x hx
    · exact ha
  · rcases List.mem_or_eq_of_mem_set hx with hx | rfl
    · exact Nat.le_trans (h.len x hx) hK
    · exact hl
/-- Nobody asks for an order. -/
def Quiet (raw : List RuleS) : Prop := ∀ r, r ∈ raw → mem r.tg ⟨#[46, 79, 82, 68, 69, 82]⟩ = false ∧ mem r.src waitN = false
theorem NX.len (x : NX) : x.cells.length = 10 := rfl
theorem nx_len (xs : List NX) : (xs.flatMap NX.cells).length = xs.length * 10 := flat_len _ _ NX.len xs
def BS.noN (X : BS) (i : Nat) (x : NX) (F : List Chunk) : List Chunk := X.heads ++ (Cls (X.own.map (·.2)) ++ (X.marks.map markC ++ ([StrRow x.SV x.nd.src, StrRow x.CV x.nd.cmd] ++ (X.nodes.eraseIdx i).flatMap NX.own)) ++ F)
theorem node_perm {a b h c d F L : List Chunk} {x : Chunk} : (L ++ (h ++ (c ++ (d ++ ((a ++ [x]) ++ b)) ++ F))).Perm (x :: (L ++ (h ++ (c ++ (d ++ (a ++ b)) ++ F)))) := by
  have e1 : L ++ (h ++ (c ++ (d ++ ((a ++ [x]) ++ b)) ++ F)) = (L ++ (h ++ (c ++ (d ++ a)))) ++ x :: (b ++ F) := by simp only [List.append_assoc, List.cons_append, List.nil_append]
  have e2 : L ++ (h ++ (c ++ (d ++ (a ++ b)) ++ F)) = (L ++ (h ++ (c ++ (d ++ a)))) ++ (b ++ F) := by simp only [List.append_assoc]
  rw [e1, e2]
  exact List.perm_middle
section
variable {fp : Nat → Prop} {w0 w : World} {X : BS} {L F : List Chunk}
theorem aft_out (h : Mem fp w0 (L ++ X.mem F) w) {i : Nat} (hi : i < X.nodes.length) : Mem fp w0 (StrRow X.nodes[i].AV X.nodes[i].nd.aft :: (L ++ X.noN i X.nodes[i] F)) w := by
  refine h.perm (List.Perm.trans ?_ (node_perm (a := [StrRow X.nodes[i].SV X.nodes[i].nd.src, StrRow X.nodes[i].CV X.nodes[i].nd.cmd])))
  exact List.Perm.append_left _ (List.Perm.append_left _ (List.Perm.append_right _ (List.Perm.append_left _ (List.Perm.append_left _ (flat_out NX.own X.nodes i hi)))))
theorem aft_in {i : Nat} (hi : i < X.nodes.length) {g n c : Nat} (hV : X.NV = .slice (some ⟨g, 0, none⟩) n c) (AV : Value) (a : List ByteArray) (h : Mem fp w0 (StrRow AV a :: (L ++ X.noN i X.nodes[i] F)) w) :
    Mem fp w0 (L ++ ({ X with nodes := X.nodes.set i (X.nodes[i].aft AV a) } : BS).mem F) (w.setCell ⟨g, i * 10 + 4, none⟩ AV) := by
  have hp := List.Perm.trans (node_perm (x := StrRow AV a) (L := L) (h := X.heads) (c := Cls (X.own.map (·.2))) (d := X.marks.map markC) (a := [StrRow X.nodes[i].SV X.nodes[i].nd.src, StrRow X.nodes[i].CV X.nodes[i].nd.cmd]) (b := (X.nodes.eraseIdx i).flatMap NX.own) (F := F)).symm
    (List.Perm.append_left _ (List.Perm.append_left _ (List.Perm.append_right _ (List.Perm.append_left _ (List.Perm.append_left _ (flat_in NX.own X.nodes i hi (X.nodes[i].aft AV a)))))))
  have h2 := h.perm hp
  have e : ∀ (c : Chunk) (A B L : List Chunk), (L ++ (A ++ c :: B)).Perm (c :: (L ++ (A ++ B))) := fun c A B L => by
    rw [← List.append_assoc, ← List.append_assoc]; exact List.perm_middle
  have h3 := h2.perm (e (NRow X.NV X.nodes) [Blk X.b 67 X.cells, StrRow X.SV X.suf, PrsRow X.WV X.ways, MapC X.fb Value.string setV X.files, MapC X.ob Value.string RX.val X.own, StrRow X.TH X.there, MapC X.mb Value.string markV X.marks, MapC X.lb Value.string Value.string X.links, MapC X.sb Value.string (Value.int .i64) X.state] _ L)
  rw [hV] at h3
  have hn : n = X.nodes.length := by
    obtain ⟨A', c', e', _⟩ := Row.any_ h3.head
    cases e'; rfl
  subst hn
  have h4 := h3.rowSet (j := i * 10 + 4) (by omega) AV
  rw [flat_set NX.cells 10 NX.len X.nodes i hi 4 AV (X.nodes[i].aft AV a) (by decide) rfl] at h4
  have e5 : Row 38 10 (.slice (some ⟨g, 0, none⟩) X.nodes.length c) X.nodes.length ((X.nodes.set i (X.nodes[i].aft AV a)).flatMap NX.cells) = NRow X.NV (X.nodes.set i (X.nodes[i].aft AV a)) := by
    unfold NRow
    rw [List.length_set, hV]
  rw [e5] at h4
  exact h4.perm (e (NRow X.NV (X.nodes.set i (X.nodes[i].aft AV a))) [Blk X.b 67 X.cells, StrRow X.SV X.suf, PrsRow X.WV X.ways, MapC X.fb Value.string setV X.files, MapC X.ob Value.string RX.val X.own, StrRow X.TH X.there, MapC X.mb Value.string markV X.marks, MapC X.lb Value.string Value.string X.links, MapC X.sb Value.string (Value.int .i64) X.state] _ L).symm
end
end Go.Proofs.Ytliglejbkpjamaa
