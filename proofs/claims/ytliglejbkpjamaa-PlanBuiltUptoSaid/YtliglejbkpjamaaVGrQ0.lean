/-
  Layer 16 (graph): what behind wants: Sort and Compact of texts, nodes taken apart.
-/
/-
  Layer 16 (graph): the walk of behind's closure add.
-/
/-
  Layer 16 (graph): ContainsFunc with behind's second closure.
-/
import Derived.Test.YtliglejbkpjamaaVGrP
import Derived.Test.YtliglejbkpjamaaVPthSs
import Derived.Sort.OwnSorted
set_option linter.unusedVariables false
set_option linter.unusedSimpArgs false
section
set_option maxRecDepth 20000
namespace Go.Proofs.Ytliglejbkpjamaa
open Go.RowKit Go.Sort Go.Proofs

/-- A row's first ones. -/
theorem row_take {e size n c k : Nat} {A : Option Addr} {cells : List Value} {w : World} (h : (Row e size (.slice A n c) n cells).ok w) (hk : k ≤ n) : (Row e size (.slice A k c) k (cells.take (k * size))).ok w := by
  obtain ⟨h1, h2⟩ := h
  have hks : k * size ≤ n * size := Nat.mul_le_mul_right _ hk
  refine ⟨by rw [List.length_take, h1]; omega, ?_⟩
  rcases h2 with ⟨e1, e2⟩ | ⟨g, cap, cur, e1, hg, hh, hle, hcap, hsz, htk⟩
  · cases e1
    exact .inl ⟨by rw [show k = 0 from by omega], by omega⟩
  · cases e1
    refine .inr ⟨g, c, cur, rfl, hg, hh, by omega, hcap, hsz, ?_⟩
    rw [← htk, List.take_take, Nat.min_eq_left hks]
theorem Mem.rowTake {fp : Nat → Prop} {w0 w : World} {F : List Chunk} {e size n c k : Nat} {A : Option Addr} {cells : List Value} (h : Mem fp w0 (Row e size (.slice A n c) n cells :: F) w) (hk : k ≤ n) : Mem fp w0 (Row e size (.slice A k c) k (cells.take (k * size)) :: F) w :=
  h.swap_ (row_take h.head hk) (fun b hb => by
    have hb : Value.ownBlock (.slice A k c) = some b := hb
    show Value.ownBlock (.slice A n c) = some b
    cases A <;> exact hb)
theorem strs_take1 (l : List ByteArray) (k : Nat) : strs (l.take k) = (strs l).take (k * 1) := by rw [Nat.mul_one]; unfold strs; rw [List.map_take]
theorem Mem.strTake {fp : Nat → Prop} {w0 w : World} {F : List Chunk} {n c k : Nat} {A : Option Addr} {l : List ByteArray} (h : Mem fp w0 (StrRow (.slice A n c) l :: F) w) (hk : k ≤ l.length) : Mem fp w0 (StrRow (.slice A k c) (l.take k) :: F) w := by
  obtain ⟨A', c', e, _⟩ := Row.any_ h.head
  have hn : n = l.length := by cases e; rfl
  subst hn
  have := h.rowTake hk
  unfold StrRow
  rw [strs_take1, List.length_take, Nat.min_eq_left hk]
  exact this
def bl (l : List ByteArray) : List (List UInt8) := l.map fun b => b.data.toList
def lb (l : List (List UInt8)) : List ByteArray := l.map fun b => ⟨b.toArray⟩
theorem lb_bl (l : List ByteArray) : lb (bl l) = l := by
  unfold lb bl
  rw [List.map_map]
  conv => rhs; rw [← List.map_id l]
  rfl
theorem enc_lb (l : List (List UInt8)) : strs (lb l) = l.map encStr := by simp [strs, lb]
theorem enc_bl (l : List ByteArray) : (bl l).map encStr = strs l := by rw [← enc_lb, lb_bl]
theorem bl_len (l : List ByteArray) : (bl l).length = l.length := by simp [bl]
theorem sort_calls {fp : Nat → Prop} {w0 w : World} {F : List Chunk} {v : Value} {l : List ByteArray} (HM : Mem fp w0 (StrRow v l :: F) w) (hl : l.length ≤ 100000000) :
    Calls Try.prog 51 #[v] w fun e w' => e = .returned (.tuple #[]) ∧ ∃ l', l'.Perm l ∧ Mem fp w0 (StrRow v l' :: F) w' := by
  have hown : w.ownsRow 0 9 1 v l.length (strs l) := HM.head
  rcases hown.2 with ⟨rfl, h0⟩ | ⟨g, cap, cur, rfl, hb, hg, h1, h2, h3, h4⟩
  · refine (Try.slices_Sort_string_none none 0 w).mono ?_
    rintro e w' ⟨rfl, rfl⟩
    exact ⟨rfl, l, .refl _, HM⟩
  · by_cases h0 : l.length = 0
    · have e0 : l = [] := List.length_eq_zero_iff.1 h0
      subst e0
      refine (Try.slices_Sort_string_none (some ⟨g, 0, none⟩) cap w).mono ?_
      rintro e w' ⟨rfl, rfl⟩
      exact ⟨rfl, [], .refl _, HM⟩
    · rw [← enc_bl, Nat.mul_one] at h4
      rw [← bl_len l] at h4 h1
      have hC := Try.slices_Sort_string g 0 cap (bl l) w (holds_of_block hg h4) (Array.getElem?_eq_some_iff.1 hg).1 (by rw [bl_len]; omega)
      rw [bl_len] at hC
      refine hC.mono ?_
      rintro e w' ⟨rfl, n, os, rfl⟩
      have hp : ((bl l).mergeSort fun x y => decide (x ≤ y)).Perm (bl l) := List.mergeSort_perm _ _
      generalize (bl l).mergeSort (fun x y => decide (x ≤ y)) = t at *
      have hlt : (lb t).length = l.length := by rw [show (lb t).length = t.length from by simp [lb], hp.length_eq, bl_len]
      refine ⟨rfl, lb t, ?_, HM.turn (Mut.mono (Mut.of_grown (grownBy_sorted _)) (fun k _ hk => hk)) ?_ (fun b hb => .inl hb)⟩
      · have := hp.map (fun b : List UInt8 => (⟨b.toArray⟩ : ByteArray))
        have e : (bl l).map (fun b : List UInt8 => (⟨b.toArray⟩ : ByteArray)) = l := lb_bl l
        rw [e] at this
        exact this
      · have := ownsRow_sorted (w := w) (base := 0) (g := g) (cap := cap) (n := n) (e := 9) (os := os) (ss := bl l) (ts := t) hp.length_eq (Nat.zero_le _) hg h1 h2 h3
        show World.ownsRow _ 0 9 1 _ (lb t).length (strs (lb t))
        rw [enc_lb, hlt]
        rw [bl_len] at this
        exact this
theorem compact_sub (zs : List (List UInt8)) : (∀ x, x ∈ Lib.compact zs → x ∈ zs) ∧ (Lib.compact zs).length ≤ zs.length := by
  have key : ∀ m, m ≤ zs.length → (∀ x, x ∈ Lib.compactUpTo zs.toArray m → x ∈ zs) ∧ (Lib.compactUpTo zs.toArray m).length ≤ m := by
    intro m
    induction m with
    | zero => intro _; simp [Lib.compactUpTo]
    | succ m ih =>
      intro hm
      obtain ⟨a, b⟩ := ih (by omega)
      rw [Lib.compactUpTo_succ]
      refine ⟨fun x hx => ?_, ?_⟩
      · rcases List.mem_append.1 hx with hx | hx
        · exact a x hx
        · split at hx
          · rw [List.mem_singleton] at hx
            rw [hx]
            have : zs.toArray[m]! = zs[m]'(by omega) := by simp [show m < zs.length from by omega]
            rw [this]
            exact List.getElem_mem _
          · cases hx
      · rw [List.length_append]
        split
        · simp; omega
        · simp; omega
  exact key zs.length (Nat.le_refl _)
theorem compact_calls {fp : Nat → Prop} {w0 w : World} {F : List Chunk} {v : Value} {l : List ByteArray} (HM : Mem fp w0 (StrRow v l :: F) w) :
    Calls Try.prog 52 #[v] w fun e w' => ∃ v' l', e = .returned v' ∧ (∀ x, x ∈ l' → x ∈ l) ∧ l'.length ≤ l.length ∧ Mem fp w0 (StrRow v' l' :: F) w' := by
  have hown : w.ownsRow 0 9 1 v l.length (strs l) := HM.head
  rcases hown.2 with ⟨rfl, h0⟩ | ⟨g, cap, cur, rfl, hb, hg, h1, h2, h3, h4⟩
  · refine (Try.slices_Compact_string_empty none 0 w).mono ?_
    rintro e w' ⟨rfl, rfl⟩
    exact ⟨_, l, rfl, fun _ h => h, Nat.le_refl _, HM⟩
  · by_cases h0 : l.length = 0
    · have e0 : l = [] := List.length_eq_zero_iff.1 h0
      subst e0
      refine (Try.slices_Compact_string_empty (some ⟨g, 0, none⟩) cap w).mono ?_
      rintro e w' ⟨rfl, rfl⟩
      exact ⟨_, [], rfl, fun _ h => h, Nat.le_refl _, HM⟩
    · rw [← enc_bl, Nat.mul_one] at h4
      rw [← bl_len l] at h4 h1
      unfold maxLen at h2
      have hC := Try.slices_Compact_string g 0 cap (bl l) w (holds_of_block hg h4) (by omega) h1
      rw [bl_len] at hC
      refine hC.mono ?_
      rintro e w' ⟨rfl, q, rfl⟩
      obtain ⟨s1, s2⟩ := compact_sub (bl l)
      generalize hcz : Lib.compact (bl l) = z at *
      rw [bl_len] at s2 h1
      have ez : grow (putRow encStr (Sort.ahead w q) g 0 (z ++ List.replicate (l.length - z.length) []).toArray) #[] = putRow encStr (Sort.ahead w q) g 0 (z ++ List.replicate (l.length - z.length) []).toArray := by
        unfold grow; simp; rfl
      have hll : (lb z).length = z.length := by simp [lb]
      refine ⟨_, lb z, rfl, fun x hx => ?_, by rw [hll]; exact s2, ?_⟩
      · obtain ⟨y, hy, rfl⟩ := List.mem_map.1 hx
        obtain ⟨u, hu, rfl⟩ := List.mem_map.1 (s1 y hy)
        exact hu
      · have hlen : (z ++ List.replicate (l.length - z.length) []).length = (bl l).length := by rw [List.length_append, List.length_replicate, bl_len]; omega
        have hm : Mem fp w0 (Row 9 1 (.slice (some ⟨g, 0, none⟩) l.length cap) l.length ((z ++ List.replicate (l.length - z.length) []).map encStr) :: F) (putRow encStr (Sort.ahead w q) g 0 (z ++ List.replicate (l.length - z.length) []).toArray) := by
          rw [← ez]
          refine HM.turn (Mut.mono (Mut.of_grown (grownBy_sorted _)) (fun k _ hk => hk)) ?_ (fun b hb => .inl hb)
          have := ownsRow_sorted (w := w) (base := 0) (g := g) (cap := cap) (n := q) (e := 9) (os := #[]) (ss := bl l) (ts := z ++ List.replicate (l.length - z.length) []) hlen (Nat.zero_le _) hg (by rw [bl_len]; exact h1) (by unfold maxLen; omega) h3
          rw [bl_len] at this
          exact this
        have hm2 := hm.rowTake (k := z.length) s2
        rw [Nat.mul_one, List.map_append, List.take_append_of_le_length (by simp), List.take_of_length_le (by simp)] at hm2
        show Mem fp w0 (Row 9 1 _ (lb z).length (strs (lb z)) :: F) _
        rw [enc_lb, hll]
        exact hm2

def strip (n : NodeS) : NodeS := { n with aft := [] }
/-- What holds of the nodes on the way: they differ from the first ones in After alone. -/
structure AOk (s0 : List NodeS) (K : Nat) (xs : List NX) : Prop where
  same : xs.map (fun x => strip x.nd) = s0.map strip
  in_ : ∀ x, x ∈ xs → ∀ y, y ∈ x.nd.aft → y ∈ s0.map NodeS.name
  len : ∀ x, x ∈ xs → x.nd.aft.length ≤ K
theorem AOk.names {s0 : List NodeS} {K : Nat} {xs : List NX} (h : AOk s0 K xs) : xs.map (fun x => x.nd.name) = s0.map NodeS.name := by
  have := congrArg (List.map NodeS.name) h.same
  rw [List.map_map, List.map_map] at this
  exact this
theorem AOk.size {s0 : List NodeS} {K : Nat} {xs : List NX} (h : AOk s0 K xs) : xs.length = s0.length := by
  have := congrArg List.length h.same
  simpa using this
theorem AOk.mono {s0 : List NodeS} {K K' : Nat} {xs : List NX} (h : AOk s0 K xs) (hK : K ≤ K') : AOk s0 K' xs := ⟨h.same, h.in_, fun x hx => Nat.le_trans (h.len x hx) hK⟩
def NX.aft (x : NX) (AV : Value) (a : List ByteArray) : NX := ⟨x.SV, x.CV, AV, { x.nd with aft := a }⟩
theorem AOk.set {s0 : List NodeS} {K K' : Nat} {xs : List NX} (h : AOk s0 K xs) (hK : K ≤ K') {i : Nat} (hi : i < xs.length) (AV : Value) {a : List ByteArray} (ha : ∀ y, y ∈ a → y ∈ s0.map NodeS.name) (hl : a.length ≤ K') : AOk s0 K' (xs.set i (xs[i].aft AV a)) := by
  refine ⟨?_, fun x hx => ?_, fun x hx => ?_⟩
  · rw [← h.same, List.map_set]
    refine List.ext_getElem? fun j => ?_
    rw [List.getElem?_set]
    split
    · rename_i e
      subst e
      rw [List.length_map, if_pos hi, List.getElem?_map, List.getElem?_eq_getElem hi]
      rfl
    · rfl
  · rcases List.mem_or_eq_of_mem_set hx with hx | rfl
    · exact h.in_ x hx
    · exact ha
  · rcases List.mem_or_eq_of_mem_set hx with hx | rfl
    · exact Nat.le_trans (h.len x hx) hK
    · exact hl
/-- Nobody asks for an order. -/
def Quiet (raw : List RuleS) : Prop := ∀ r, r ∈ raw → mem r.tg ⟨#[46, 79, 82, 68, 69, 82]⟩ = false ∧ mem r.src waitN = false
theorem NX.len (x : NX) : x.cells.length = 10 := rfl
theorem nx_len (xs : List NX) : (xs.flatMap NX.cells).length = xs.length * 10 := flat_len _ _ NX.len xs
def BS.noN (X : BS) (i : Nat) (x : NX) (F : List Chunk) : List Chunk := X.heads ++ (Cls (X.own.map (·.2)) ++ (X.marks.map markC ++ ([StrRow x.SV x.nd.src, StrRow x.CV x.nd.cmd] ++ (X.nodes.eraseIdx i).flatMap NX.own)) ++ F)
theorem node_perm {a b h c d F L : List Chunk} {x : Chunk} : (L ++ (h ++ (c ++ (d ++ ((a ++ [x]) ++ b)) ++ F))).Perm (x :: (L ++ (h ++ (c ++ (d ++ (a ++ b)) ++ F)))) := by
  have e1 : L ++ (h ++ (c ++ (d ++ ((a ++ [x]) ++ b)) ++ F)) = (L ++ (h ++ (c ++ (d ++ a)))) ++ x :: (b ++ F) := by simp only [List.append_assoc, List.cons_append, List.nil_append]
  have e2 : L ++ (h ++ (c ++ (d ++ (a ++ b)) ++ F)) = (L ++ (h ++ (c ++ (d ++ a)))) ++ (b ++ F) := by simp only [List.append_assoc]
  rw [e1, e2]
  exact List.perm_middle
section
variable {fp : Nat → Prop} {w0 w : World} {X : BS} {L F : List Chunk}
theorem aft_out (h : Mem fp w0 (L ++ X.mem F) w) {i : Nat} (hi : i < X.nodes.length) : Mem fp w0 (StrRow X.nodes[i].AV X.nodes[i].nd.aft :: (L ++ X.noN i X.nodes[i] F)) w := by
  refine h.perm (List.Perm.trans ?_ (node_perm (a := [StrRow X.nodes[i].SV X.nodes[i].nd.src, StrRow X.nodes[i].CV X.nodes[i].nd.cmd])))
  exact List.Perm.append_left _ (List.Perm.append_left _ (List.Perm.append_right _ (List.Perm.append_left _ (List.Perm.append_left _ (flat_out NX.own X.nodes i hi)))))
theorem aft_in {i : Nat} (hi : i < X.nodes.length) {g n c : Nat} (hV : X.NV = .slice (some ⟨g, 0, none⟩) n c) (AV : Value) (a : List ByteArray) (h : Mem fp w0 (StrRow AV a :: (L ++ X.noN i X.nodes[i] F)) w) :
    Mem fp w0 (L ++ ({ X with nodes := X.nodes.set i (X.nodes[i].aft AV a) } : BS).mem F) (w.setCell ⟨g, i * 10 + 4, none⟩ AV) := by
  have hp := List.Perm.trans (node_perm (x := StrRow AV a) (L := L) (h := X.heads) (c := Cls (X.own.map (·.2))) (d := X.marks.map markC) (a := [StrRow X.nodes[i].SV X.nodes[i].nd.src, StrRow X.nodes[i].CV X.nodes[i].nd.cmd]) (b := (X.nodes.eraseIdx i).flatMap NX.own) (F := F)).symm
    (List.Perm.append_left _ (List.Perm.append_left _ (List.Perm.append_right _ (List.Perm.append_left _ (List.Perm.append_left _ (flat_in NX.own X.nodes i hi (X.nodes[i].aft AV a)))))))
  have h2 := h.perm hp
  have e : ∀ (c : Chunk) (A B L : List Chunk), (L ++ (A ++ c :: B)).Perm (c :: (L ++ (A ++ B))) := fun c A B L => by
    rw [← List.append_assoc, ← List.append_assoc]; exact List.perm_middle
  have h3 := h2.perm (e (NRow X.NV X.nodes) [Blk X.b 67 X.cells, StrRow X.SV X.suf, PrsRow X.WV X.ways, MapC X.fb Value.string setV X.files, MapC X.ob Value.string RX.val X.own, StrRow X.TH X.there, MapC X.mb Value.string markV X.marks, MapC X.lb Value.string Value.string X.links, MapC X.sb Value.string (Value.int .i64) X.state] _ L)
  rw [hV] at h3
  have hn : n = X.nodes.length := by
    obtain ⟨A', c', e', _⟩ := Row.any_ h3.head
    cases e'; rfl
  subst hn
  have h4 := h3.rowSet (j := i * 10 + 4) (by omega) AV
  rw [flat_set NX.cells 10 NX.len X.nodes i hi 4 AV (X.nodes[i].aft AV a) (by decide) rfl] at h4
  have e5 : Row 38 10 (.slice (some ⟨g, 0, none⟩) X.nodes.length c) X.nodes.length ((X.nodes.set i (X.nodes[i].aft AV a)).flatMap NX.cells) = NRow X.NV (X.nodes.set i (X.nodes[i].aft AV a)) := by
    unfold NRow
    rw [List.length_set, hV]
  rw [e5] at h4
  exact h4.perm (e (NRow X.NV (X.nodes.set i (X.nodes[i].aft AV a))) [Blk X.b 67 X.cells, StrRow X.SV X.suf, PrsRow X.WV X.ways, MapC X.fb Value.string setV X.files, MapC X.ob Value.string RX.val X.own, StrRow X.TH X.there, MapC X.mb Value.string markV X.marks, MapC X.lb Value.string Value.string X.links, MapC X.sb Value.string (Value.int .i64) X.state] _ L).symm
end
end Go.Proofs.Ytliglejbkpjamaa
end
section
set_option maxRecDepth 100000
namespace Go.Proofs.Ytliglejbkpjamaa
open Go.RowKit

def LB (X : BS) (bb ab atb : Nat) (m : List (ByteArray × Int)) : List Chunk := [Blk bb 56 #[.pointer (some ⟨X.b, 0, none⟩)], Blk ab 65 #[.map (some atb)], MapC atb Value.string (Value.int .i64) m]
theorem waitIs {s : ByteArray} (h : s = waitN) : (s.toList == [46, 87, 65, 73, 84]) = true ∧ s.toList = [46, 87, 65, 73, 84] ∧ (!(s.toList == [46, 87, 65, 73, 84])) = false := by
  obtain ⟨a, b⟩ := isC (l := [46, 87, 65, 73, 84]) h
  exact ⟨a, b, by rw [a]; rfl⟩
theorem waitNe {s : ByteArray} (h : ¬ s = waitN) : (s.toList == [46, 87, 65, 73, 84]) = false ∧ ¬ s.toList = [46, 87, 65, 73, 84] ∧ (!(s.toList == [46, 87, 65, 73, 84])) = true := by
  obtain ⟨a, b⟩ := neC (l := [46, 87, 65, 73, 84]) h
  exact ⟨a, b, by rw [a]; rfl⟩
set_option maxHeartbeats 16000000 in
theorem add_calls (X : BS) (s0 : List NodeS) (K : Nat) (bb ab atb : Nat) (m : List (ByteArray × Int)) (name : ByteArray) (AH : Value) (ahead : List ByteArray) {w0 : World} {F : List Chunk} (w : World) (HX : Mem none_ w0 (LB X bb ab atb m ++ X.mem F) w)
    (hA : AOk s0 K X.nodes) (hm : ∀ y i, mget m y = some i → 0 ≤ i ∧ i.toNat < s0.length ∧ y ∈ s0.map NodeS.name) (hK : K + ahead.length ≤ 100000000)
    (hAh : ∀ wr xs', Mem none_ w0 (LB X bb ab atb m ++ ({ X with nodes := xs' } : BS).mem F) wr → Strs wr AH ahead) :
    Calls Try.prog 48 #[.string name, AH, .pointer (some ⟨ab, 0, none⟩), .pointer (some ⟨bb, 0, none⟩)] w fun e w' => e = .returned (.tuple #[]) ∧ ∃ xs', AOk s0 (K + ahead.length) xs' ∧ Mem none_ w0 (LB X bb ab atb m ++ ({ X with nodes := xs' } : BS).mem F) w' := by
  obtain ⟨A, c, rfl, h1, h2, _⟩ := hAh w X.nodes HX
  unfold maxLen at h2
  have HM0 := Lib.hid HX
  have k0 : w.cell? ⟨ab, 0, none⟩ = some (.map (some atb)) := Blk.cell_ (HX.at_ 1 rfl) 0
  have hmc : (MapC atb Value.string (Value.int .i64) m).ok w := HX.at_ 2 rfl
  clear HX
  go_enter Try.func48, Try.ntmps48
  cases hg : mget m name with
  | none =>
    have hlk : (if true = true then Value.tuple #[((mget m name).map (Value.int .i64)).getD (.int .i64 0), .bool (mhas m name)] else ((mget m name).map (Value.int .i64)).getD (.int .i64 0)) = .tuple #[.int .i64 0, .bool false] := by rw [if_pos rfl, hg, show mhas m name = false from by unfold mhas; rw [hg]; rfl]; rfl
    have hA1 := Lib.hid (hA.mono (Nat.le_add_right K ahead.length))
    clear hg hAh
    go_wp2_with (at_lookup; refine wpList_get keyS Try.underlying65 zeroJ rfl _ _ true rfl hmc rfl name rfl _ hlk ?_)
    refine bodyPost_ret (v := .tuple #[]) ?hr1 rfl ?_
    case hr1 =>
      unfold results
      go_simp
    exact ⟨rfl, X.nodes, hA1.out, HM0.out⟩
  | some i =>
    obtain ⟨j, rfl, hj, _⟩ : ∃ j : Nat, i = (j : Int) ∧ j < s0.length ∧ True := by
      obtain ⟨a, b, _⟩ := hm name i hg
      exact ⟨i.toNat, by omega, b, trivial⟩
    have hlk : (if true = true then Value.tuple #[((mget m name).map (Value.int .i64)).getD (.int .i64 0), .bool (mhas m name)] else ((mget m name).map (Value.int .i64)).getD (.int .i64 0)) = .tuple #[.int .i64 (j : Int), .bool true] := by rw [if_pos rfl, hg, show mhas m name = true from by unfold mhas; rw [hg]; rfl]; rfl
    have hm := Lib.hid hm
    have hAh := Lib.hid hAh
    have hj := Lib.hid hj
    clear hg
    go_wp2_with (at_lookup; refine wpList_get keyS Try.underlying65 zeroJ rfl _ _ true rfl hmc rfl name rfl _ hlk ?_)
    clear k0 hmc hlk
    have hA0 := Lib.hid hA
    go_loopw [22] (fun v22 wr => ∃ (k : Nat) (xs' : List NX), k ≤ ahead.length ∧ v22 = .int .i64 k ∧ Hid (AOk s0 (K + k) xs') ∧ Mem none_ w0 (LB X bb ab atb m ++ ({ X with nodes := xs' } : BS).mem F) wr) (fun v _ => ahead.length - (intOf v).toNat)
    case atStart => exact ⟨0, X.nodes, Nat.zero_le _, rfl, hA0, HM0.out⟩
    case round =>
      clear HM0 hA0 hA
      obtain ⟨k, xs, hk, rfl, hA, HM⟩ := hrel
      by_cases hlt : k < ahead.length
      · have hlt' : decide ((k : Int) < (ahead.length : Int)) = true := decide_eq_true (by omega)
        have hltN : decide (k < ahead.length) = true := decide_eq_true hlt
        obtain ⟨A', c', e', _, _, _, f2⟩ := hAh.out wr xs HM
        cases e'
        obtain ⟨b2, o2, rfl, hc2⟩ := f2.resolve_left (by omega)
        have s0' : wr.cell? ⟨b2, o2 + k, none⟩ = some (.string ahead[k]) := hc2 _ _ (strs_get hlt)
        have k0 : wr.cell? ⟨ab, 0, none⟩ = some (.map (some atb)) := Blk.cell_ (HM.at_ 1 rfl) 0
        have hmc : (MapC atb Value.string (Value.int .i64) m).ok wr := HM.at_ 2 rfl
        clear f2 hc2
        generalize ahead[k] = x at *
        have HM1 := Lib.hid HM
        have hA1 := Lib.hid (hA.out.mono (Nat.le_succ (K + k)))
        cases hg : mget m x with
        | none =>
          have hlk : (if true = true then Value.tuple #[((mget m x).map (Value.int .i64)).getD (.int .i64 0), .bool (mhas m x)] else ((mget m x).map (Value.int .i64)).getD (.int .i64 0)) = .tuple #[.int .i64 0, .bool false] := by rw [if_pos rfl, hg, show mhas m x = false from by unfold mhas; rw [hg]; rfl]; rfl
          clear hg HM
          go_wp2_with (at_lookup; refine wpList_get keyS Try.underlying65 zeroJ rfl _ _ true rfl hmc rfl x rfl _ hlk ?_)
          go_roundw
          case rel => exact ⟨k + 1, xs, by omega, by go_num, hA1, HM1.out⟩
          case measure => simp [intOf]; omega
        | some i =>
          have hlk : (if true = true then Value.tuple #[((mget m x).map (Value.int .i64)).getD (.int .i64 0), .bool (mhas m x)] else ((mget m x).map (Value.int .i64)).getD (.int .i64 0)) = .tuple #[.int .i64 i, .bool true] := by rw [if_pos rfl, hg, show mhas m x = true from by unfold mhas; rw [hg]; rfl]; rfl
          have hxn := Lib.hid (hm.out x i hg).2.2
          by_cases hx : x = waitN
          · obtain ⟨q1, q2, q3⟩ := waitIs hx
            clear hg HM hx hxn
            go_wp2_with (at_lookup; refine wpList_get keyS Try.underlying65 zeroJ rfl _ _ true rfl hmc rfl x rfl _ hlk ?_)
            go_roundw
            case rel => exact ⟨k + 1, xs, by omega, by go_num, hA1, HM1.out⟩
            case measure => simp [intOf]; omega
          · obtain ⟨q1, q2, q3⟩ := waitNe hx
            clear hg HM hx
            go_wp2_with (at_lookup; refine wpList_get keyS Try.underlying65 zeroJ rfl _ _ true rfl hmc rfl x rfl _ hlk ?_)
            have hjx : j < xs.length := by rw [hA.out.size]; exact hj.out
            have hxl : xs.length ≤ 512 ∨ True := .inr trivial
            have HM2 := Lib.hid (aft_out (X := { X with nodes := xs }) (L := LB X bb ab atb m) HM1.out hjx)
            have hrow : (NRow X.NV xs).ok _ := HM2.out.at_ 13 rfl
            obtain ⟨nb, nc, eNV, _, nu⟩ := Row.at_ hrow (by omega)
            have eNV := Lib.hid eNV
            have hin := Lib.hid (show ∀ y, y ∈ xs[j].nd.aft ++ [x] → y ∈ s0.map NodeS.name from fun y hy => by
              rcases List.mem_append.1 hy with hy | hy
              · exact hA.out.in_ _ (List.getElem_mem hjx) y hy
              · rw [List.mem_singleton.1 hy]; exact hxn.out)
            have hln := Lib.hid (show (xs[j].nd.aft ++ [x]).length ≤ K + (k + 1) from by
              have := hA.out.len _ (List.getElem_mem hjx)
              rw [List.length_append]; simp; omega)
            have hln2 := Lib.hid (show (xs[j].nd.aft.length + 1) * 16 ≤ 140737488355328 from by
              have := hA.out.len _ (List.getElem_mem hjx)
              omega)
            have hjI : decide ((j : Int) < (xs.length : Int)) = true := decide_eq_true (by omega)
            have hjN : decide (j < xs.length) = true := decide_eq_true hjx
            have hcell : ∀ (W : World), (NRow X.NV xs).ok W → W.cell? ⟨nb, j * 10 + 4, none⟩ = some xs[j].AV := fun W h => by
              rw [eNV.out] at h
              exact Row.cell h ((flat_get NX.cells 10 NX.len xs j hjx 4 (by decide)).trans rfl)
            have hcell := Lib.hid hcell
            have hS0 : Hid (World.cell? _ ⟨bb, 0, none⟩ = some (.pointer (some ⟨X.b, 0, none⟩)) ∧ World.cell? _ ⟨X.b, 9, none⟩ = some (.slice (some ⟨nb, 0, none⟩) xs.length nc) ∧ World.cell? _ ⟨nb, j * 10 + 4, none⟩ = some xs[j].AV) := Lib.hid ⟨Blk.cell_ (HM2.out.drew.at_ 1 rfl) 0, by rw [← eNV.out]; exact Blk.cell_ (HM2.out.drew.at_ 4 rfl) 9, hcell.out _ (HM2.out.drew.at_ 13 rfl)⟩
            refine wp_plan [18] (S := fun w' => Hid (w'.cell? ⟨bb, 0, none⟩ = some (.pointer (some ⟨X.b, 0, none⟩)) ∧ w'.cell? ⟨X.b, 9, none⟩ = some (.slice (some ⟨nb, 0, none⟩) xs.length nc) ∧ w'.cell? ⟨nb, j * 10 + 4, none⟩ = some xs[j].AV)) [(.load, 0), (.pure, 1), (.pure, 2), (.load, 3), (.pure, 4), (.load, 5), (.pure, 6), (.pure, 7), (.load, 8), (.pure, 9), (.pure, 10), (.pure, 11), (.load, 12), (.pure, 13), (.eff, 14), (.eff, 15), (.pure, 16), (.pure, 17), (.tail, 18)] (by kernel_rfl) rfl (by kernel_rfl) rfl (fun _ _ _ _ _ h => h) hS0 ?_
            have HM3 := Lib.hid HM2.out.drew
            clear hS0 HM2 HM1 hrow
            generalize World.drew _ = W5 at *
            have hAx := Lib.hid hA.out
            clear hA
            generalize hxj : xs[j] = xj at *
            have hxj := Lib.hid hxj
            obtain ⟨SVj, CVj, AVj, ndj⟩ := xj
            simp only at *
            repeat (first | (refine plan_pure (v := ?_) (a' := ?_) rfl rfl rfl ?_ ?_ ?_; rotate_left 2; (focus (intro w'; go_simp; with_reducible rfl)); (focus (simp only [Act.put, List.setIfInBounds_toArray, List.set_cons_zero, List.set_cons_succ]; rfl))) | (refine plan_load (v := ?_) (a' := ?_) rfl rfl rfl ?_ ?_ ?_; rotate_left 2; (focus (intro w' hw'; obtain ⟨q0, q1, q2⟩ := hw'.out; clear hw'; go_simp; with_reducible rfl)); (focus (simp only [Act.put, List.setIfInBounds_toArray, List.set_cons_zero, List.set_cons_succ]; rfl))) | (refine plan_skip rfl rfl (by decide +kernel) (by simp only [Act.put, List.setIfInBounds_toArray, List.set_cons_zero, List.set_cons_succ]; rfl) ?_))
            refine plan_eff rfl (fun K2 hK2 => ?_)
            go_wp2_with fail
            refine hK2 _ _ ?_ ?_
            · have HMa := HM3.out.alloc (.cells #[.string x] 9)
              exact Lib.hid ⟨Blk.cell_ (HMa.at_ 1 rfl) 0, by rw [← eNV.out]; exact Blk.cell_ (HMa.at_ 4 rfl) 9, hcell.out _ (HMa.at_ 13 rfl)⟩
            clear hK2
            refine plan_eff_put rfl rfl (fun K3 hK3 => ?_)
            refine wpList_appS strE rfl _ _ rfl HM3.out rfl x _ rfl rfl hln2.out ?_
            intro v5 w5 hm5 hU5
            refine wpList_nil_ (hK3 _ _ ?_ ?_)
            · exact Lib.hid ⟨Blk.cell_ (hm5.at_ 1 rfl) 0, by rw [← eNV.out]; exact Blk.cell_ (hm5.at_ 4 rfl) 9, hcell.out _ (hm5.at_ 13 rfl)⟩
            clear hK3 hU5 HM3
            obtain ⟨B1, n5, d5, e5⟩ : ∃ A n c, v5 = .slice A n c := by
              obtain ⟨A, c, e, _⟩ := Row.any_ hm5.head
              exact ⟨A, _, c, e⟩
            subst e5
            simp only [Act.put, List.setIfInBounds_toArray, List.set_cons_zero, List.set_cons_succ]
            repeat (first | (refine plan_pure (v := ?_) (a' := ?_) rfl rfl rfl ?_ ?_ ?_; rotate_left 2; (focus (intro w'; go_simp; with_reducible rfl)); (focus (simp only [Act.put, List.setIfInBounds_toArray, List.set_cons_zero, List.set_cons_succ]; rfl))) | (refine plan_load (v := ?_) (a' := ?_) rfl rfl rfl ?_ ?_ ?_; rotate_left 2; (focus (intro w' hw'; obtain ⟨q0, q1, q2⟩ := hw'.out; clear hw'; go_simp; with_reducible rfl)); (focus (simp only [Act.put, List.setIfInBounds_toArray, List.set_cons_zero, List.set_cons_succ]; rfl))) | (refine plan_skip rfl rfl (by decide +kernel) (by simp only [Act.put, List.setIfInBounds_toArray, List.set_cons_zero, List.set_cons_succ]; rfl) ?_))
            have z0 := hcell.out _ (hm5.at_ 13 rfl)
            have z1 : World.frozen? w5 ⟨nb, j * 10 + 4, none⟩ = false := by
              have hr : (NRow X.NV xs).ok w5 := hm5.at_ 13 rfl
              rw [eNV.out] at hr
              exact Row.frozen hr _
            have HM6 := Lib.hid (aft_in (X := { X with nodes := xs }) (L := LB X bb ab atb m) (F := F) hjx eNV.out (.slice B1 n5 d5) (ndj.aft ++ [x]) (by
              have e : ({ X with nodes := xs } : BS).nodes[j] = ⟨SVj, CVj, AVj, ndj⟩ := hxj.out
              rw [e]
              exact hm5))
            have hA6 := Lib.hid (hAx.out.set (K' := K + (k + 1)) (by omega) hjx (.slice B1 n5 d5) hin.out hln.out)
            clear hm5 hcell hAx
            refine plan_tail rfl (fun K4 hK4 => ?_)
            go_wp2_with fail
            refine plan_done ?_
            clear z0 z1
            go_wp2_with fail
            go_roundw
            case rel => exact ⟨k + 1, _, by omega, by go_num, hA6, HM6.out⟩
            case measure => simp [intOf]; omega
      · have hlt' : decide ((k : Int) < (ahead.length : Int)) = false := decide_eq_false (by omega)
        have hltN : decide (k < ahead.length) = false := decide_eq_false hlt
        have e : k = ahead.length := by omega
        subst e
        have HM1 := Lib.hid HM
        clear HM
        go_wp2_with fail
        go_end0
        exact ⟨rfl, xs, hA.out, HM1.out⟩
end Go.Proofs.Ytliglejbkpjamaa
end
section
set_option maxRecDepth 100000
namespace Go.Proofs.Ytliglejbkpjamaa
open Go.RowKit

theorem anyt_take {α : Type} {p : α → Bool} {l : List α} {k : Nat} (h : k < l.length) (h0 : (l.take k).any p = false) : (l.take (k + 1)).any p = p l[k] := by
  rw [List.take_succ_eq_append_getElem h, List.any_append, h0]; simp
theorem anyt_hit {α : Type} {p : α → Bool} {l : List α} {k : Nat} (h : k < l.length) (hp : p l[k] = true) : l.any p = true :=
  List.any_eq_true.2 ⟨l[k], List.getElem_mem h, hp⟩
set_option maxHeartbeats 8000000 in
theorem b2_calls (X : BS) (bb : Nat) (t : ByteArray) {fp : Nat → Prop} {w0 : World} {L F : List Chunk} (w : World) (HX : Mem fp w0 (L ++ X.mem F) w) (hbb : w.cell? ⟨bb, 0, none⟩ = some (.pointer (some ⟨X.b, 0, none⟩))) :
    Calls Try.prog 50 #[.string t, .pointer (some ⟨bb, 0, none⟩)] w fun e w' => e = .returned (.bool (mhas X.own t)) ∧ Mem none_ w [] w' := by
  have HX2 : Mem fp w0 (X.mem (F ++ L)) w := mem_in HX
  have hor := own_reads X t HX2
  have hob : (MapC X.ob Value.string RX.val X.own).ok w := HX2.at_ 4 rfl
  have k4 : w.cell? ⟨X.b, 4, none⟩ = some (Value.map (some X.ob)) := Blk.cell_ (HX2.at_ 0 rfl) 4
  obtain ⟨x, hx⟩ : ∃ x, ownX X.own t = x := ⟨_, rfl⟩
  rw [hx] at hor
  have hlk : (if true = true then Value.tuple #[((mget X.own t).map RX.val).getD (.agg #[.slice none 0 0, .int .i64 0, .slice none 0 0, .slice none 0 0, .int .i64 0]), .bool (mhas X.own t)] else ((mget X.own t).map RX.val).getD (.agg #[.slice none 0 0, .int .i64 0, .slice none 0 0, .slice none 0 0, .int .i64 0])) = .tuple #[RX.val x, .bool (mhas X.own t)] := by
    rw [if_pos rfl, ← hx]
    unfold ownX
    cases mget X.own t <;> rfl
  obtain ⟨TV, SV, CV, r⟩ := x
  obtain ⟨⟨A1, c1, e1, _⟩, ⟨A2, c2, e2, _⟩, ⟨A3, c3, e3, _⟩⟩ := hor
  simp only at e1 e2 e3
  subst e1 e2 e3
  obtain ⟨ok, hok⟩ : ∃ b, mhas X.own t = b := ⟨_, rfl⟩
  have hlk := hlk.trans (show _ = Value.tuple #[.agg #[.slice A1 r.tg.length c1, .int .i64 r.kind, .slice A2 r.src.length c2, .slice A3 r.cmd.length c3, .int .i64 r.at_], .bool ok] from by rw [hok]; rfl)
  rw [hok]
  clear hok hx HX HX2
  have HM1 := (Mem.start (fp := none_) w).box #[.slice A1 r.tg.length c1, .int .i64 r.kind, .slice A2 r.src.length c2, .slice A3 r.cmd.length c3, .int .i64 r.at_] 25
  go_enter Try.func50, Try.ntmps50
  go_wp2_with (at_lookup; refine wpList_get keyS Try.underlying62 zeroR rfl _ _ true rfl hob rfl t rfl _ hlk ?_)
  go_ret
  exact ⟨rfl, HM1.tail⟩
set_option maxHeartbeats 8000000 in
theorem idxF_calls (q : ByteArray → Bool) (lb : Array Value) (V : Value) (L : List ByteArray) (w : World) (hV : Strs w V L)
    (hq : ∀ wx, Pure w wx → ∀ t, t ∈ L → Calls Try.prog 50 (#[.string t] ++ lb) wx fun e w' => e = .returned (.bool (q t)) ∧ Mem none_ wx [] w') :
    Calls Try.prog 68 #[V, .func (.func 50) #[] lb] w fun e w' => ∃ r : Int, e = .returned (.int .i64 r) ∧ decide (0 ≤ r) = L.any q ∧ Mem none_ w [] w' := by
  obtain ⟨A, c, rfl, g1, g2, g3, g4⟩ := hV
  unfold maxLen at g2
  have HQ := Lib.hid hq
  clear hq
  have HM0 := (Mem.start (fp := none_) w)
  go_enter Try.func68, Try.ntmps68
  go_wp2_with fail
  go_loopw [5, 8] (fun v5 v8 wr => ∃ i : Nat, i ≤ L.length ∧ v8 = .int .i64 i ∧ Hid ((L.take i).any q = false) ∧ Mem none_ w [] wr) (fun _ v _ => L.length - (intOf v).toNat)
  case atStart => exact ⟨0, Nat.zero_le _, rfl, rfl, HM0⟩
  case round =>
    clear HM0
    obtain ⟨i, hi, rfl, HN, HM⟩ := hrel
    by_cases hlt : i < L.length
    · have hlt' : decide ((i : Int) < (L.length : Int)) = true := decide_eq_true (by omega)
      have hltN : decide (i < L.length) = true := decide_eq_true hlt
      obtain ⟨b, o, rfl, hcells⟩ := g4.resolve_left (by omega)
      have x0 : wr.cell? ⟨b, o + i, none⟩ = some (.string L[i]) := Pure.cell HM.mu (hcells _ _ (strs_get hlt))
      have hq := HQ.out wr HM.mu L[i] (List.getElem_mem hlt)
      have HT := Lib.hid (anyt_take hlt HN.out)
      have HH : Hid (q L[i] = true → L.any q = true) := anyt_hit hlt
      clear hcells g4 HN
      generalize L[i] = x at *
      obtain ⟨G, hG⟩ : ∃ G, q x = G := ⟨_, rfl⟩
      rw [hG] at hq HT HH
      clear hG
      cases G with
      | true =>
        have HL : Hid (L.any q = true) := HH.out rfl
        clear HH
        go_wp2_with fail
        refine hq.mono ?_
        rintro e w3 ⟨rfl, HM1⟩
        have HMe := HM.got HM1
        go_wp2_with fail
        go_ret
        exact ⟨_, rfl, by rw [HL.out]; exact decide_eq_true (by omega), HMe⟩
      | false =>
        go_wp2_with fail
        refine hq.mono ?_
        rintro e w3 ⟨rfl, HM1⟩
        have HMe := HM.got HM1
        go_wp2_with fail
        go_roundw
        case rel => exact ⟨i + 1, by omega, by go_num, HT.out, HMe⟩
        case measure => simp [intOf]; omega
    · have hlt' : decide ((i : Int) < (L.length : Int)) = false := decide_eq_false (by omega)
      have hltN : decide (i < L.length) = false := decide_eq_false hlt
      have e : i = L.length := by omega
      subst e
      have HR2 := HN.out
      rw [List.take_length] at HR2
      have HR3 := Lib.hid HR2
      clear HR2
      go_wp2_with fail
      go_ret
      exact ⟨_, rfl, by rw [HR3.out]; rfl, HM⟩
set_option maxHeartbeats 8000000 in
theorem contF_calls (q : ByteArray → Bool) (lb : Array Value) (V : Value) (L : List ByteArray) (w : World) (hV : Strs w V L)
    (hq : ∀ wx, Pure w wx → ∀ t, t ∈ L → Calls Try.prog 50 (#[.string t] ++ lb) wx fun e w' => e = .returned (.bool (q t)) ∧ Mem none_ wx [] w') :
    Calls Try.prog 49 #[V, .func (.func 50) #[] lb] w fun e w' => e = .returned (.bool (L.any q)) ∧ Mem none_ w [] w' := by
  have hI := idxF_calls q lb V L w hV hq
  obtain ⟨A, c, rfl, _⟩ := hV
  obtain ⟨R, hR⟩ : ∃ R, L.any q = R := ⟨_, rfl⟩
  rw [hR] at hI ⊢
  clear hR hq
  go_enter Try.func49, Try.ntmps49
  go_wp2_with fail
  refine hI.mono ?_
  rintro e w1 ⟨r, rfl, hr, HM⟩
  clear hI
  go_wp2_with fail
  go_ret
  exact ⟨by first | rw [hr] | rfl, HM⟩
end Go.Proofs.Ytliglejbkpjamaa
end
