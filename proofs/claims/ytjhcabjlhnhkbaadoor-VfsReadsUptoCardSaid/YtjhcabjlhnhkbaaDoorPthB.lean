/-
  Layer 02 (path): the walks of the reference: split, Parts, join, Clean, Join.
-/
import Derived.Test.YtjhcabjlhnhkbaaDoorPthA
set_option linter.unusedVariables false
set_option linter.unusedSimpArgs false
namespace Go.Proofs.YtjhcabjlhnhkbaaDoor
open Go.RowKit

theorem split_cons_ne {c x : UInt8} {r : (List UInt8)} {h : (List UInt8)} {t : List (List UInt8)} (hx : ¬ x = c) (e : splitL c r = h :: t) : splitL c (x :: r) = (x :: h) :: t := by
  rw [splitL, if_neg hx, e]
theorem split_cons_eq {c x : UInt8} (r : (List UInt8)) (hx : x = c) : splitL c (x :: r) = [] :: splitL c r := by rw [splitL, if_pos hx]
theorem split_snoc (c x : UInt8) : ∀ a : (List UInt8), splitL c (a ++ [x]) = if x = c then splitL c a ++ [[]] else (splitL c a).dropLast ++ [((splitL c a).getLast?).getD [] ++ [x]]
  | [] => by
    show splitL c [x] = _
    by_cases hx : x = c
    · rw [if_pos hx, split_cons_eq [] hx]; rfl
    · rw [if_neg hx, split_cons_ne hx (rfl : splitL c [] = [] :: [])]; rfl
  | y :: a => by
    have ih := split_snoc c x a
    obtain ⟨h, t, e⟩ := List.exists_cons_of_ne_nil (splitL_ne c a)
    show splitL c (y :: (a ++ [x])) = _
    by_cases hy : y = c
    · rw [split_cons_eq _ hy, split_cons_eq _ hy, ih, e]
      by_cases hx : x = c
      · rw [if_pos hx, if_pos hx]; rfl
      · rw [if_neg hx, if_neg hx]
        simp [List.getLast?_cons_cons]
    · rw [split_cons_ne hy e]
      rw [e] at ih
      by_cases hx : x = c
      · rw [if_pos hx] at ih ⊢
        rw [split_cons_ne hy ih]; rfl
      · rw [if_neg hx] at ih ⊢
        cases t with
        | nil =>
          have ih' : splitL c (a ++ [x]) = (h ++ [x]) :: [] := ih
          rw [split_cons_ne hy ih']; rfl
        | cons h2 t =>
          have ih' : splitL c (a ++ [x]) = h :: ((h2 :: t).dropLast ++ [((h2 :: t).getLast?).getD [] ++ [x]]) := by rw [ih]; simp [List.getLast?_cons_cons]
          rw [split_cons_ne hy ih']
          simp [List.getLast?_cons_cons]
theorem split_mem_len (c : UInt8) : ∀ (s : (List UInt8)) (x : (List UInt8)), x ∈ splitL c s → x.length ≤ s.length
  | [], x, h => by
    have : x = [] := by simpa [splitL] using h
    rw [this]; exact Nat.le_refl _
  | y :: s, x, h => by
    obtain ⟨h1, t, e⟩ := List.exists_cons_of_ne_nil (splitL_ne c s)
    have ih := split_mem_len c s
    by_cases hy : y = c
    · rw [split_cons_eq _ hy] at h
      rcases List.mem_cons.1 h with rfl | h
      · simp
      · have := ih x h; simp; omega
    · rw [split_cons_ne hy e] at h
      rcases List.mem_cons.1 h with rfl | h
      · have := ih h1 (by rw [e]; exact List.mem_cons_self ..); simp; exact this
      · have := ih x (by rw [e]; exact List.mem_cons_of_mem _ h); simp; omega
theorem split_last_len (c : UInt8) (s : (List UInt8)) (x : (List UInt8)) (h : (splitL c s).getLast? = some x) : x.length ≤ s.length := split_mem_len c s x (List.mem_of_getLast? h)
theorem strs_set (l : List ByteArray) (j : Nat) (y : ByteArray) : (strs l).set j (.string y) = strs (l.set j y) := by unfold strs; rw [List.map_set]
abbrev LRow (v : Value) (l : List (List UInt8)) : Chunk := StrRow v (l.map ofL)
theorem append_ofL (a b : (List UInt8)) : ofL a ++ ofL b = ofL (a ++ b) := by
  unfold ofL
  rw [ByteArray.ext_iff]
  simp
theorem getLast_map {l : List (List UInt8)} (h : l ≠ []) : ∃ x : (List UInt8), l.getLast? = some x ∧ (l.map ofL)[l.length - 1]? = some (ofL x) := by
  refine ⟨l.getLast h, List.getLast?_eq_some_getLast h, ?_⟩
  have hl : 0 < l.length := List.length_pos_iff.2 h
  rw [List.getElem?_map, List.getElem?_eq_getElem (by omega), List.getLast_eq_getElem]; rfl
theorem set_last {l : List (List UInt8)} (h : l ≠ []) (y : (List UInt8)) : (l.map ofL).set (l.length - 1) (ofL y) = (l.dropLast ++ [y]).map ofL := by
  obtain ⟨d, z, rfl⟩ : ∃ d z, l = d ++ [z] := ⟨l.dropLast, l.getLast h, (List.dropLast_concat_getLast h).symm⟩
  rw [List.dropLast_concat, List.length_append, List.length_singleton, Nat.add_sub_cancel, List.map_append, List.map_append, List.set_append_right _ _ (by simp)]
  simp
set_option maxHeartbeats 4000000 in
theorem split_calls (s : (List UInt8)) (c : UInt8) (w : World) (hs : s.length ≤ 9000000) :
    Calls Tryd.prog 47 #[.string (ofL s), .int .u8 c.toNat] w fun e w' => ∃ v, e = .returned v ∧ Mem none_ w [LRow v (splitL c s)] w' := by
  have hz := ofL_size s
  have HM0 : Mem none_ w [LRow (.slice (some ⟨w.heap.size, 0, none⟩) 1 1) (splitL c (s.take 0))] (w.alloc (.cells #[.string ⟨#[]⟩] 9)) := (Mem.start (fp := none_) w).lit1 ⟨#[]⟩
  go_enter Tryd.func47, Tryd.ntmps47
  go_wp2_with fail
  go_loopw [5, 6] (fun v5 v6 wr => ∃ k : Nat, k ≤ s.length ∧ v6 = .int .i64 k ∧ Mem none_ w [LRow v5 (splitL c (s.take k))] wr) (fun _ v _ => s.length - (intOf v).toNat)
  case atStart => exact ⟨0, Nat.zero_le _, rfl, HM0⟩
  case round =>
    clear HM0
    obtain ⟨k, hk, rfl, HM⟩ := hrel
    by_cases hlt : k < s.length
    · have hlt' : decide ((k : Int) < (s.length : Int)) = true := decide_eq_true (by omega)
      have hsn : splitL c (s.take (k + 1)) = if s[k] = c then splitL c (s.take k) ++ [[]] else (splitL c (s.take k)).dropLast ++ [((splitL c (s.take k)).getLast?).getD [] ++ [s[k]]] := by
        rw [List.take_succ_eq_append_getElem hlt]; exact split_snoc c s[k] (s.take k)
      have hln := split_len c (s.take k)
      have htk : (s.take k).length = k := by rw [List.length_take]; omega
      have hne := splitL_ne c (s.take k)
      by_cases hc : s[k] = c
      · rw [if_pos hc] at hsn
        have d1 : (((((ofL s)[k]'(by rw [ofL_size]; exact hlt)).toNat : Nat) : Int) == ((c.toNat : Nat) : Int)) = true := (byte_eq _ c).trans (decide_eq_true hc)
        have Hsn := Lib.hid hsn
        clear hc hsn
        generalize splitL c (s.take k) = L at *
        go_wp2_with (at_builtin; refine wpList_appS strE rfl _ _ rfl HM rfl ⟨#[]⟩ _ rfl ?hnb ?hb ?_; (case hnb => simp); (case hb => simp; omega); intro v' w' HM3 HU3)
        have HM4 : Mem none_ w [LRow v' (splitL c (s.take (k + 1)))] w' := by
          rw [Hsn.out]
          unfold LRow
          rw [List.map_append]
          exact HM3
        go_roundw
        case rel => exact ⟨k + 1, by omega, by go_num, HM4⟩
        case measure => simp [intOf]; omega
      · rw [if_neg hc] at hsn
        have d1 : (((((ofL s)[k]'(by rw [ofL_size]; exact hlt)).toNat : Nat) : Int) == ((c.toNat : Nat) : Int)) = false := (byte_eq _ c).trans (decide_eq_false hc)
        obtain ⟨x, hx1, hx2⟩ := getLast_map hne
        rw [hx1, Option.getD_some] at hsn
        have Hsn := Lib.hid hsn
        have HE : Hid ((ofL s).extract k (k + 1) = ofL [s[k]]) := by
          unfold Hid
          rw [extract_ofL]
          congr 1
          rw [List.take_succ_eq_append_getElem hlt, List.drop_append_of_le_length (by omega), List.drop_of_length_le (by omega)]; rfl
        have hxl : x.length ≤ k := by
          have := split_last_len c (s.take k) x hx1
          omega
        have hxs := ofL_size x
        have h1s : (ofL [s[k]]).size = 1 := ofL_size _
        have hAp : Hid (ofL x ++ ofL [s[k]] = ofL (x ++ [s[k]])) := append_ofL _ _
        have hset := set_last hne (x ++ [s[k]])
        rw [← Hsn.out] at hset
        have Hset := Lib.hid hset
        have hnn : 0 < (splitL c (s.take k)).length := List.length_pos_iff.2 hne
        have hml : ((splitL c (s.take k)).map ofL).length = (splitL c (s.take k)).length := List.length_map ..
        have HMd := HM.drew
        clear HM
        obtain ⟨g, cp, rfl, q1, q2⟩ := Row.at_ (HMd.at_ 0 rfl) (by omega)
        unfold maxLen at q2
        have y1 := Row.cell (HMd.at_ 0 rfl) (j := (splitL c (s.take k)).length - 1) (u := .string (ofL x)) (by unfold strs; rw [List.getElem?_map, hx2]; rfl)
        have y2 := Row.frozen (HMd.at_ 0 rfl) ((splitL c (s.take k)).length - 1)
        have HMs := HMd.rowSet (j := (splitL c (s.take k)).length - 1) (by omega) (.string (ofL (x ++ [s[k]])))
        have HM4 : Mem none_ w [LRow (.slice (some ⟨g, 0, none⟩) ((splitL c (s.take k)).map ofL).length cp) (splitL c (s.take (k + 1)))] (wr.drew.setCell ⟨g, (splitL c (s.take k)).length - 1, none⟩ (.string (ofL (x ++ [s[k]])))) := by
          rw [strs_set, Hset.out] at HMs
          have e3 : ((splitL c (s.take (k + 1))).map ofL).length = ((splitL c (s.take k)).map ofL).length := by rw [← Hset.out, List.length_set]
          unfold LRow StrRow
          rw [e3]
          exact HMs
        have HM4' := Lib.hid HM4
        have ei : ((((splitL c (s.take k)).map ofL).length : Nat) : Int) - 1 = (((splitL c (s.take k)).length - 1 : Nat) : Int) := by omega
        have ej : ((splitL c (s.take k)).length - 1) < ((splitL c (s.take k)).map ofL).length := by omega
        have hLb : ((splitL c (s.take k)).map ofL).length ≤ 9000001 := by omega
        clear HM4 HMs Hset Hsn hset hsn hx1 hx2 hne hln hml hnn hc HMd
        generalize hn : (splitL c (s.take k)).length - 1 = n at *
        generalize hn2 : ((splitL c (s.take k)).map ofL).length = n2 at *
        have hwr : IntKind.i64.wrap ((n : Nat) : Int) = (n : Int) := IntWalk.i64_in _ (by omega)
        have hwk : IntKind.i64.wrap ((k : Int) + 1) = ((k + 1 : Nat) : Int) := IntWalk.i64_in _ (by omega)
        have hk2 : (k : Int) + 1 ≤ (s.length : Int) := by omega
        have hex : ∀ wx, (Instr.slice 9 (.string (ofL s)) (some (.int .i64 (k : Int))) (some (.int .i64 ((k : Int) + 1))) none).run Tryd.prog wx = .ok (.string (ofL [s[k]])) wx := fun wx => by
          have h := run_slice_string (P := Tryd.prog) wx 9 (ofL s) .i64 .i64 (k : Int) ((k : Int) + 1) Tryd.underlying9 (by omega) (by omega) (by rw [ofL_size]; omega)
          have e1 : ((k : Int)).toNat = k := by omega
          have e2 : ((k : Int) + 1).toNat = k + 1 := by omega
          rw [h, e1, e2, HE.out]
        have hap : ∀ wx, (Op.stringOp .add (ofL x) (ofL [s[k]])).run Tryd.prog wx = .ok (.string (ofL (x ++ [s[k]]))) wx := fun wx => by
          rw [run_string_add_sum wx _ _ (by omega), hAp.out]
        go_wp2_with fail
        refine wp_plan [13] (S := fun w' => w' = World.drew wr) [(.pure, 0), (.pure, 1), (.pure, 2), (.pure, 3), (.pure, 4), (.load, 5), (.pure, 6), (.pure, 7), (.pure, 8), (.pure, 9), (.pure, 10), (.pure, 11), (.pure, 12), (.tail, 13)] (by kernel_rfl) rfl (by kernel_rfl) rfl (fun _ _ _ _ _ h => h) rfl ?_
        generalize hW : World.drew wr = W at *
        repeat (first | (refine plan_pure (v := ?_) (a' := ?_) rfl rfl rfl ?_ ?_ ?_; rotate_left 2; (focus (intro w'; go_simp; with_reducible rfl)); (focus (simp only [Act.put, List.setIfInBounds_toArray, List.set_cons_zero, List.set_cons_succ]; rfl))) | (refine plan_load (v := ?_) (a' := ?_) rfl rfl rfl ?_ ?_ ?_; rotate_left 2; (focus (intro w' hw'; rw [hw']; go_simp; with_reducible rfl)); (focus (simp only [Act.put, List.setIfInBounds_toArray, List.set_cons_zero, List.set_cons_succ]; rfl))) | (refine plan_skip rfl rfl (by decide +kernel) (by simp only [Act.put, List.setIfInBounds_toArray, List.set_cons_zero, List.set_cons_succ]; rfl) ?_))
        refine plan_tail rfl (fun K hK => ?_)
        clear hex hap
        generalize ofL (x ++ [s[k]]) = y at *
        go_wp2_with fail
        refine plan_done ?_
        go_wp2_with fail
        go_roundw
        case rel => exact ⟨k + 1, by omega, by go_num, HM4'.out⟩
        case measure => simp [intOf]; omega
    · have e : k = s.length := by omega
      subst e
      rw [List.take_length] at HM
      go_wp2_with fail
      go_ret
      exact ⟨_, rfl, HM⟩
end Go.Proofs.YtjhcabjlhnhkbaaDoor
