/-
  Layer 02 (path): the walks of the reference: join, Parts, Clean, Join.
-/
import Derived.Test.YtjhcabjlhnhkbaaDoorPthB
set_option linter.unusedVariables false
set_option linter.unusedSimpArgs false
namespace Go.Proofs.YtjhcabjlhnhkbaaDoor
open Go.RowKit

/-- A row of texts, as lists of bytes. -/
abbrev TRow (v : Value) (l : List (List UInt8)) : Chunk := Row 9 1 v l.length (strs (l.map ofL))
theorem TRow.eq (v : Value) (l : List (List UInt8)) : LRow v l = TRow v l := by unfold LRow StrRow TRow; rw [List.length_map]
abbrev Txts (w : World) (v : Value) (l : List (List UInt8)) : Prop := Sl w v 1 l.length (strs (l.map ofL))
theorem Txts.eq (w : World) (v : Value) (l : List (List UInt8)) : Strs w v (l.map ofL) = Txts w v l := by unfold Strs Txts; rw [List.length_map]
theorem tx_get {l : List (List UInt8)} {k : Nat} (h : k < l.length) : (strs (l.map ofL))[k]? = some (.string (ofL l[k])) := by simp [strs, h]
theorem Txts.take {w : World} {A : Option Addr} {c : Nat} {l : List (List UInt8)} (h : Txts w (.slice A l.length c) l) {k : Nat} (hk : k ≤ l.length) : Txts w (.slice A k c) (l.take k) := by
  have h2 := Strs.take (A := A) (c := c) (l := l.map ofL) (by rw [Txts.eq, List.length_map]; exact h) (k := k) (by rw [List.length_map]; exact hk)
  rw [← List.map_take, Txts.eq] at h2
  exact h2
theorem Mem.nilT {fp : Nat → Prop} {w0 W : World} {F : List Chunk} (h : Mem fp w0 F W) : Mem fp w0 (TRow (.slice none 0 0) [] :: F) W := h.nilS
section
variable {P : Program} {ops : Array Oper} {rest : List Oper} {o : Oper} {a : Act} {Q : Exit → Act → World → Prop} {t bytes : Nat}
theorem wpList_appT (HE : Elem P t 9 1 bytes) (hgd : o.guard = none) (s x : Operand) (ho : o.op = .call { callee := .builtin .append, args := #[s, x], argTypes := #[t, t] })
    {fp : Nat → Prop} {w0 W : World} {F : List Chunk} {v : Value} {l : List (List UInt8)} (HM : Mem fp w0 (TRow v l :: F) W) (hs : a.eval s = v)
    (y : List UInt8) (nb : Nat) (hx : a.eval x = .slice (some ⟨nb, 0, none⟩) 1 1) (hnb : nb = W.heap.size)
    (hb : (l.length + 1) * bytes ≤ 140737488355328)
    (h : ∀ v' w', Mem fp w0 (TRow v' (l ++ [y]) :: F) w' → Mut (fun k => v.ownBlock = some k) W w' → wpList P ops Q rest (a.put o.dst v') w') :
    wpList P ops Q (o :: rest) a (W.alloc (.cells #[.string (ofL y)] 9)) := by
  rw [← TRow.eq] at HM
  refine wpList_appS HE hgd s x ho HM hs (ofL y) nb hx hnb (by rw [List.length_map]; exact hb) (fun v' w' hm hmu => h v' w' ?_ hmu)
  rw [← TRow.eq]
  unfold LRow
  rw [List.map_append]; exact hm
theorem wpList_appTs (HE : Elem P t 9 1 bytes) (hgd : o.guard = none) (s x : Operand) (ho : o.op = .call { callee := .builtin .append, args := #[s, x], argTypes := #[t, t] })
    {fp : Nat → Prop} {w0 W : World} {F : List Chunk} {v : Value} {l : List (List UInt8)} (HM : Mem fp w0 (TRow v l :: F) W) (hs : a.eval s = v)
    {m : List (List UInt8)} {xv : Value} (hxe : a.eval x = xv) (hx : Txts W xv m)
    (hb : (l.length + m.length) * bytes ≤ 140737488355328)
    (h : ∀ v' w', Mem fp w0 (TRow v' (l ++ m) :: F) w' → Mut (fun k => v.ownBlock = some k) W w' → wpList P ops Q rest (a.put o.dst v') w') :
    wpList P ops Q (o :: rest) a W := by
  rw [← TRow.eq] at HM
  rw [← Txts.eq] at hx
  refine wpList_appL HE hgd s x ho HM hs hxe hx (by rw [List.length_map, List.length_map]; exact hb) (fun v' w' hm hmu => h v' w' ?_ hmu)
  rw [← TRow.eq]
  unfold LRow
  rw [List.map_append]; exact hm
end
theorem split_calls' (s : List UInt8) (c : UInt8) (w : World) (hs : s.length ≤ 9000000) :
    Calls Tryd.prog 47 #[.string (ofL s), .int .u8 c.toNat] w fun e w' => ∃ v, e = .returned v ∧ Mem none_ w [TRow v (splitL c s)] w' := by
  refine (split_calls s c w hs).mono ?_
  rintro e w' ⟨v, h1, h2⟩
  rw [TRow.eq] at h2
  exact ⟨v, h1, h2⟩
theorem join_snoc (x : List UInt8) : ∀ l : List (List UInt8), joinL (l ++ [x]) = if l = [] then x else joinL l ++ ([47] ++ x)
  | [] => rfl
  | y :: l => by
    have ih := join_snoc x l
    rw [if_neg (by simp)]
    by_cases hl : l = []
    · subst hl; rfl
    · rw [List.cons_append, join_cons (by simp), ih, if_neg hl, join_cons hl]
      simp
theorem join_take_len {l : List (List UInt8)} : ∀ {k : Nat}, k ≤ l.length → (joinL (l.take k)).length ≤ (joinL l).length := by
  have key : ∀ m l : List (List UInt8), (joinL l).length ≤ (joinL (l ++ m)).length := by
    intro m
    induction m with
    | nil => intro l; simp
    | cons x m ih =>
      intro l
      have h1 := ih (l ++ [x])
      have h2 : (joinL l).length ≤ (joinL (l ++ [x])).length := by
        rw [join_snoc]
        split
        · rename_i h; rw [h]; simp [joinL]
        · simp
      rw [List.append_assoc] at h1
      exact Nat.le_trans h2 h1
  intro k hk
  have := key (l.drop k) (l.take k)
  rwa [List.take_append_drop] at this
theorem add_run (a b : List UInt8) (h : a.length + b.length ≤ 9223372036854775807) (wx : World) : (Op.stringOp .add (ofL a) (ofL b)).run Tryd.prog wx = .ok (.string (ofL (a ++ b))) wx := by
  rw [run_string_add_sum wx _ _ (by rw [ofL_size, ofL_size]; exact h), append_ofL]
set_option maxHeartbeats 2000000 in
theorem join_calls (V : Value) (l : List (List UInt8)) (w : World) (hV : Txts w V l) (hl : l.length ≤ 9000000) (hj : (joinL l).length ≤ 9000000) :
    Calls Tryd.prog 45 #[V, .string ⟨#[47]⟩] w fun e w' => e = .returned (.string (ofL (joinL l))) ∧ w = w' := by
  obtain ⟨A, c, rfl, h1, h2, h3, h4⟩ := hV
  unfold maxLen at h2
  have e47 : (⟨#[47]⟩ : ByteArray) = ofL [47] := rfl
  rw [e47]
  go_enter Tryd.func45, Tryd.ntmps45
  go_wp2_with fail
  go_loop [5, 6] (fun v5 v6 => ∃ k : Nat, k ≤ l.length ∧ v6 = .int .i64 k ∧ v5 = .string (ofL (joinL (l.take k)))) (fun _ v => l.length - (intOf v).toNat)
  case atStart => exact ⟨0, Nat.zero_le _, rfl, rfl⟩
  case round =>
    obtain ⟨k, hk, rfl, rfl⟩ := hrel
    by_cases hlt : k < l.length
    · have hlt' : decide ((k : Int) < (l.length : Int)) = true := decide_eq_true (by omega)
      obtain ⟨b, o, rfl, hcells⟩ := h4.resolve_left (by omega)
      have hx0 : w.cell? ⟨b, o + k, none⟩ = some (.string (ofL l[k])) := hcells k _ (tx_get hlt)
      have hsn : joinL (l.take (k + 1)) = if l.take k = [] then l[k] else joinL (l.take k) ++ ([47] ++ l[k]) := by
        rw [List.take_succ_eq_append_getElem hlt]; exact join_snoc _ _
      have hb1 := join_take_len (l := l) (k := k + 1) (by omega)
      clear hcells h4 h3
      cases k with
      | zero =>
        rw [Nat.add_zero] at hx0
        have hsn' : joinL (l.take (0 + 1)) = l[0] := by rw [hsn]; rfl
        have hap : ∀ wx, (Op.stringOp .add (ofL []) (ofL l[0])).run Tryd.prog wx = .ok (.string (ofL (joinL (l.take (0 + 1))))) wx := by
          rw [hsn']
          exact add_run [] l[0] (by rw [hsn'] at hb1; simp; omega)
        have e0 : joinL (l.take 0) = [] := rfl
        rw [e0]
        clear hsn hsn'
        obtain ⟨J, hJ⟩ : ∃ J, joinL (l.take (0 + 1)) = J := ⟨_, rfl⟩
        rw [hJ] at hap hb1
        have HJ : Hid (Value.string (ofL J) = Value.string (ofL (joinL (l.take (0 + 1))))) := by unfold Hid; rw [hJ]
        clear hJ
        generalize l[0] = x at *
        go_wp2_with fail
        go_round
        case rel => exact ⟨0 + 1, by omega, by go_num, HJ.out⟩
        case measure => simp [intOf]; omega
      | succ k =>
        rw [if_neg (by
          intro e
          have := congrArg List.length e
          rw [List.length_take, List.length_nil] at this
          omega)] at hsn
        have d1 : decide (0 < ((k + 1 : Nat) : Int)) = true := decide_eq_true (by omega)
        have hap1 := add_run (joinL (l.take (k + 1))) [47] (by rw [hsn] at hb1; simp at hb1 ⊢; omega)
        have hap2 := add_run (joinL (l.take (k + 1)) ++ [47]) l[k + 1] (by rw [hsn] at hb1; simp at hb1 ⊢; omega)
        rw [List.append_assoc, ← hsn] at hap2
        have Hap2 := Lib.hid hap2
        clear hsn
        obtain ⟨J2, hJ2⟩ : ∃ J, joinL (l.take (k + 1 + 1)) = J := ⟨_, rfl⟩
        rw [hJ2] at hap2 hb1
        have HJ2 : Hid (Value.string (ofL J2) = Value.string (ofL (joinL (l.take (k + 1 + 1))))) := by unfold Hid; rw [hJ2]
        clear hJ2 Hap2
        generalize joinL (l.take (k + 1)) = J at *
        generalize l[k + 1] = x at *
        generalize hz : k + 1 = k1 at *
        go_wp2_with fail
        go_round
        case rel => exact ⟨k1 + 1, by omega, by go_num, HJ2.out⟩
        case measure => simp [intOf]; omega
    · have e : k = l.length := by omega
      subst e
      rw [List.take_length]
      go_wp2_with fail
      go_ret
      exact ⟨rfl, rfl⟩
theorem fold_len (r : Bool) : ∀ (xs out : List (List UInt8)), (xs.foldl (stepL r) out).length ≤ out.length + xs.length
  | [], out => by simp
  | x :: xs, out => by
    have h1 := fold_len r xs (stepL r out x)
    have h2 := step_len r out x
    rw [List.foldl_cons, List.length_cons]; omega
theorem fold_snoc (r : Bool) (l : List (List UInt8)) (k : Nat) (h : k < l.length) : (l.take (k + 1)).foldl (stepL r) [] = stepL r ((l.take k).foldl (stepL r) []) l[k] := by
  rw [List.take_succ_eq_append_getElem h, List.foldl_append]; rfl
theorem empty_eq (x : List UInt8) : (ofL x).toList.isEmpty = decide (x = []) := by
  rw [ByteArray.toList_eq]
  show x.isEmpty = _
  cases x <;> simp
theorem lit_eq (x y : List UInt8) : ((ofL x).toList == y) = decide (x = y) := by
  rw [ByteArray.toList_eq]
  show (x == y) = _
  rw [Bool.eq_iff_iff]; simp
theorem stepL_skip {r : Bool} {out : List (List UInt8)} {x : List UInt8} (h : x = [] ∨ x = dotL) : stepL r out x = out := by unfold stepL; rw [if_pos h]
theorem stepL_plain {r : Bool} {out : List (List UInt8)} {x : List UInt8} (h1 : x ≠ []) (h2 : x ≠ dotL) (h3 : x ≠ ddL) : stepL r out x = out ++ [x] := by
  unfold stepL; rw [if_neg (by rintro (e | e); exact h1 e; exact h2 e), if_neg h3]
theorem stepL_drop {r : Bool} {out : List (List UInt8)} {z : List UInt8} (h : out.getLast? = some z) (hz : z ≠ ddL) : stepL r out ddL = out.dropLast := by
  unfold stepL
  rw [if_neg (by simp), if_pos rfl, if_pos]
  exact ⟨fun e => (by rw [e] at h; cases h), by rw [h]; exact fun e => hz (Option.some.inj e)⟩
theorem stepL_stay {r : Bool} {out : List (List UInt8)} (h : out = [] ∨ out.getLast? = some ddL) : stepL r out ddL = if r then out else out ++ [ddL] := by
  unfold stepL
  rw [if_neg (by simp), if_pos rfl, if_neg]
  rintro ⟨h1, h2⟩
  rcases h with h | h
  · exact h1 h
  · exact h2 h
theorem last_get {l : List (List UInt8)} {z : List UInt8} (h : l.getLast? = some z) : 0 < l.length ∧ (strs (l.map ofL))[l.length - 1]? = some (.string (ofL z)) := by
  have hl : 0 < l.length := by
    cases l with
    | nil => cases h
    | cons a l => simp
  refine ⟨hl, ?_⟩
  rw [List.getLast?_eq_getElem?] at h
  unfold strs
  rw [List.getElem?_map, List.getElem?_map, h]; rfl
theorem dropLast_take (l : List (List UInt8)) : l.dropLast = l.take (l.length - 1) := List.dropLast_eq_take ..
set_option maxHeartbeats 8000000 in
theorem rparts_calls (s : List UInt8) (w : World) (hs : s.length ≤ 1200000) :
    Calls Tryd.prog 32 #[.string (ofL s)] w fun e w' => ∃ v, e = .returned v ∧ Mem none_ w [TRow v (partsL s)] w' := by
  have hsp := split_calls' s 47 w (by omega)
  have hLl := split_len 47 s
  have hrt := fun wx => rrooted_calls s wx (by omega)
  unfold partsL
  generalize splitL 47 s = L at *
  generalize rootedL s = r at *
  go_enter Tryd.func32, Tryd.ntmps32
  go_wp2_with fail
  refine hsp.mono ?_
  rintro e w1 ⟨lv, rfl, HM1⟩
  have HM2 := HM1.nilT
  clear hsp HM1
  obtain ⟨LA, lc, rfl, l1, l2⟩ := Row.any_ (HM2.at_ 1 rfl)
  unfold maxLen at l2
  go_wp2_with fail
  go_loopw [3, 5] (fun v3 v5 wr => ∃ k : Nat, k ≤ L.length ∧ v5 = .int .i64 k ∧ Mem none_ w [TRow v3 ((L.take k).foldl (stepL r) []), TRow (.slice LA L.length lc) L] wr) (fun _ v _ => L.length - (intOf v).toNat)
  case atStart => exact ⟨0, Nat.zero_le _, rfl, HM2⟩
  case round =>
    clear HM2
    obtain ⟨k, hk, rfl, HM⟩ := hrel
    by_cases hlt : k < L.length
    · have hlt' : decide ((k : Int) < (L.length : Int)) = true := decide_eq_true (by omega)
      have hsn := fold_snoc r L k hlt
      have hol := fold_len r (L.take k) []
      rw [List.length_take, List.length_nil] at hol
      generalize (L.take k).foldl (stepL r) [] = out at *
      obtain ⟨lb, lcp, el, _, _⟩ := Row.at_ (HM.at_ 1 rfl) (by omega)
      cases el
      have x0 := Row.cell (HM.at_ 1 rfl) (tx_get hlt)
      obtain ⟨OA, oc, rfl, o1, o2⟩ := Row.any_ (HM.at_ 0 rfl)
      unfold maxLen at o2
      have hol2 : out.length ≤ 1200001 := by omega
      have e0 := empty_eq L[k]
      have e1 := lit_eq L[k] dotL
      have e2 := lit_eq L[k] ddL
      have Hsn := Lib.hid hsn
      clear hsn hol
      generalize L[k] = x at *
      by_cases h0 : x = []
      · rw [decide_eq_true h0] at e0
        have HMe : Mem none_ w [TRow (.slice OA out.length oc) ((L.take (k + 1)).foldl (stepL r) []), TRow (.slice (some ⟨lb, 0, none⟩) L.length lc) L] wr := by
          rw [Hsn.out, stepL_skip (.inl h0)]; exact HM
        clear h0 e1 e2 Hsn
        go_wp2_with fail
        go_roundw
        case rel => exact ⟨k + 1, by omega, by go_num, HMe⟩
        case measure => simp [intOf]; omega
      · rw [decide_eq_false h0] at e0
        by_cases h1 : x = dotL
        · rw [decide_eq_true h1] at e1
          have HMe : Mem none_ w [TRow (.slice OA out.length oc) ((L.take (k + 1)).foldl (stepL r) []), TRow (.slice (some ⟨lb, 0, none⟩) L.length lc) L] wr := by
            rw [Hsn.out, stepL_skip (.inr h1)]; exact HM
          clear h0 h1 e2 Hsn
          go_wp2_with fail
          go_roundw
          case rel => exact ⟨k + 1, by omega, by go_num, HMe⟩
          case measure => simp [intOf]; omega
        · rw [decide_eq_false h1] at e1
          by_cases h2 : x = ddL
          · rw [decide_eq_true h2] at e2
            have hxd := Lib.hid h2
            clear h0 h1 h2
            cases hz : out.getLast? with
            | none =>
              have ho : out = [] := List.getLast?_eq_none_iff.1 hz
              have hst : Hid (out = [] ∨ out.getLast? = some ddL) := Lib.hid (.inl ho)
              have d1 : decide (0 < (out.length : Int)) = false := by rw [ho]; rfl
              have d2 : decide (0 < out.length) = false := by rw [ho]; rfl
              clear ho hz
              have hrw := hrt wr
              cases r with
              | true =>
                have HMe : Mem none_ w [TRow (.slice OA out.length oc) ((L.take (k + 1)).foldl (stepL true) []), TRow (.slice (some ⟨lb, 0, none⟩) L.length lc) L] wr := by
                  rw [Hsn.out, hxd.out, stepL_stay hst.out]; exact HM
                clear Hsn hxd hst
                go_wp2_with fail
                refine hrw.mono ?_
                rintro e w6 ⟨rfl, rfl⟩
                clear hrw hrt
                go_wp2_with fail
                go_roundw
                case rel => exact ⟨k + 1, by omega, by go_num, HMe⟩
                case measure => simp [intOf]; omega
              | false =>
                have Hn : Hid ((L.take (k + 1)).foldl (stepL false) [] = out ++ [x]) := by
                  unfold Hid
                  rw [Hsn.out, hxd.out, stepL_stay hst.out]; rfl
                clear Hsn hxd hst
                go_wp2_with fail
                refine hrw.mono ?_
                rintro e w6 ⟨rfl, rfl⟩
                clear hrw hrt
                go_wp2_with (at_builtin; refine wpList_appT strE rfl _ _ rfl HM rfl x _ rfl ?hnb ?hb ?_; (case hnb => simp); (case hb => omega); intro v' w' HM3 HU3)
                rw [← Hn.out] at HM3
                go_roundw
                case rel => exact ⟨k + 1, by omega, by go_num, HM3⟩
                case measure => simp [intOf]; omega

            | some z =>
              obtain ⟨hn, hzc⟩ := last_get hz
              have d1 : decide (0 < (out.length : Int)) = true := decide_eq_true (by omega)
              have d2 : decide (0 < out.length) = true := decide_eq_true hn
              obtain ⟨ob, oc', eo, _, _⟩ := Row.at_ (HM.at_ 0 rfl) hn
              cases eo
              have y0 := Row.cell (HM.at_ 0 rfl) hzc
              have ei : ((out.length : Nat) : Int) - 1 = ((out.length - 1 : Nat) : Int) := by omega
              have ej : out.length - 1 < out.length := by omega
              have ej2 : out.length - 1 ≤ oc := by omega
              have ez := lit_eq z ddL
              clear hzc
              by_cases h3 : z = ddL
              · have hst : Hid (out = [] ∨ out.getLast? = some ddL) := Lib.hid (.inr (by rw [hz, h3]))
                rw [decide_eq_true h3] at ez
                have ez2 : ((ofL z).toList != [46, 46]) = false := by rw [bne, ez]; rfl
                clear hz h3
                have hwr : IntKind.i64.wrap ((out.length - 1 : Nat) : Int) = ((out.length - 1 : Nat) : Int) := IntWalk.i64_in _ (by omega)
                generalize hm : out.length - 1 = m at *
                have Hm := Lib.hid hm
                clear hm
                have hrw := hrt wr
                cases r with
                | true =>
                  have HMe : Mem none_ w [TRow (.slice (some ⟨ob, 0, none⟩) out.length oc) ((L.take (k + 1)).foldl (stepL true) []), TRow (.slice (some ⟨lb, 0, none⟩) L.length lc) L] wr := by
                    rw [Hsn.out, hxd.out, stepL_stay hst.out]; exact HM
                  clear Hsn hxd hst
                  go_wp2_with fail
                  refine hrw.mono ?_
                  rintro e w6 ⟨rfl, rfl⟩
                  clear hrw hrt
                  go_wp2_with fail
                  go_roundw
                  case rel => exact ⟨k + 1, by omega, by go_num, HMe⟩
                  case measure => simp [intOf]; omega
                | false =>
                  have Hn : Hid ((L.take (k + 1)).foldl (stepL false) [] = out ++ [x]) := by
                    unfold Hid
                    rw [Hsn.out, hxd.out, stepL_stay hst.out]; rfl
                  clear Hsn hxd hst
                  go_wp2_with fail
                  refine hrw.mono ?_
                  rintro e w6 ⟨rfl, rfl⟩
                  clear hrw hrt
                  go_wp2_with (at_builtin; refine wpList_appT strE rfl _ _ rfl HM rfl x _ rfl ?hnb ?hb ?_; (case hnb => simp); (case hb => omega); intro v' w' HM3 HU3)
                  rw [← Hn.out] at HM3
                  go_roundw
                  case rel => exact ⟨k + 1, by omega, by go_num, HM3⟩
                  case measure => simp [intOf]; omega

              · rw [decide_eq_false h3] at ez
                have ez2 : ((ofL z).toList != [46, 46]) = true := by rw [bne, ez]; rfl
                have Hn : Hid ((L.take (k + 1)).foldl (stepL r) [] = [] ++ out.take (out.length - 1)) := by
                  unfold Hid
                  rw [Hsn.out, hxd.out, stepL_drop hz h3, dropLast_take]; rfl
                have hsl : Txts wr (.slice (some ⟨ob, 0, none⟩) (out.length - 1) oc) (out.take (out.length - 1)) := Txts.take (Row.sl (HM.at_ 0 rfl)) (by omega)
                have htl : (out.take (out.length - 1)).length ≤ 9000000 := by rw [List.length_take]; omega
                have HMn := HM.nilT
                have hwr : IntKind.i64.wrap ((out.length - 1 : Nat) : Int) = ((out.length - 1 : Nat) : Int) := IntWalk.i64_in _ (by omega)
                have Hsl := Lib.hid hsl
                clear Hsn hxd hz h3 hsl
                generalize hm : out.length - 1 = m at *
                clear hm
                go_wp2_with (at_builtin; refine wpList_appTs strE rfl _ _ rfl HMn rfl (xv := .slice (some ⟨ob, 0, none⟩) m oc) rfl Hsl.out ?hb ?_; (case hb => simp only [List.length_nil]; omega); intro v' w' HM3 HU3)
                rw [← Hn.out] at HM3
                have HM4 : Mem none_ w [TRow v' ((L.take (k + 1)).foldl (stepL r) []), TRow (.slice (some ⟨lb, 0, none⟩) L.length lc) L] w' := HM3.sel [0, 2] (by decide)
                go_roundw
                case rel => exact ⟨k + 1, by omega, by go_num, HM4⟩
                case measure => simp [intOf]; omega
          · rw [decide_eq_false h2] at e2
            have Hn : Hid ((L.take (k + 1)).foldl (stepL r) [] = out ++ [x]) := by
              unfold Hid
              rw [Hsn.out, stepL_plain h0 h1 h2]
            clear h0 h1 h2 Hsn
            go_wp2_with (at_builtin; refine wpList_appT strE rfl _ _ rfl HM rfl x _ rfl ?hnb ?hb ?_; (case hnb => simp); (case hb => omega); intro v' w' HM3 HU3)
            rw [← Hn.out] at HM3
            go_roundw
            case rel => exact ⟨k + 1, by omega, by go_num, HM3⟩
            case measure => simp [intOf]; omega
    · have e : k = L.length := by omega
      subst e
      rw [List.take_length] at HM
      go_wp2_with fail
      go_ret
      exact ⟨_, rfl, HM.sel [0] (by decide)⟩
end Go.Proofs.YtjhcabjlhnhkbaaDoor
