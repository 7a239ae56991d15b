/-
  The walks of layer 15 (suff): the names that a name can be made of.
-/
import Derived.Test.YtliglejbkpjamaaSuffB
import Derived.Deep.LoopGhost
set_option linter.unusedVariables false
set_option linter.unusedSimpArgs false
namespace Go.Proofs.Ytliglejbkpjamaa
open Go.RowKit

structure WS where
  makes : List (ByteArray × ByteArray)
  more : List ByteArray
  all : List ByteArray

def stepY (there : List ByteArray) (x : ByteArray) (s : WS) (y : ByteArray) : WS ⊕ (WS × ByteArray) :=
  if mhas s.makes y then .inl s
  else if s.makes.length = 512 then .inr (s, ⟨#[]⟩)
  else if mem there y then .inr (⟨mput s.makes y x, s.more ++ [y], s.all ++ [y]⟩, y) else .inl ⟨mput s.makes y x, s.more ++ [y], s.all ++ [y]⟩
def runY (there : List ByteArray) (x : ByteArray) : WS → List ByteArray → WS ⊕ (WS × ByteArray)
  | s, [] => .inl s
  | s, y :: r => match stepY there x s y with | .inl s' => runY there x s' r | .inr e => .inr e
def runX (ways : List (ByteArray × ByteArray)) (there : List ByteArray) : WS → List ByteArray → WS ⊕ (WS × ByteArray)
  | s, [] => .inl s
  | s, x :: r => match runY there x s (nextOf x ways) with | .inl s' => runX ways there s' r | .inr e => .inr e
def runR (ways : List (ByteArray × ByteArray)) (there : List ByteArray) : Nat → WS → List ByteArray → WS × ByteArray
  | 0, s, _ => (s, ⟨#[]⟩)
  | n + 1, s, round => match runX ways there { s with more := [] } round with | .inl s' => runR ways there n s' s'.more | .inr e => e
def walkOf (ways : List (ByteArray × ByteArray)) (name : ByteArray) (there : List ByteArray) : WS × ByteArray := runR ways there 7 ⟨[(name, name)], [], []⟩ [name]

def contX (n : Nat) (ways : List (ByteArray × ByteArray)) (there : List ByteArray) (s : WS) (l : List ByteArray) : WS × ByteArray := match runX ways there s l with | .inl s' => runR ways there n s' s'.more | .inr e => e
def contY (n : Nat) (ways : List (ByteArray × ByteArray)) (there : List ByteArray) (x : ByteArray) (s : WS) (l rest : List ByteArray) : WS × ByteArray := match runY there x s l with | .inl s' => contX n ways there s' rest | .inr e => e
theorem runR_succ (n : Nat) (ways : List (ByteArray × ByteArray)) (there : List ByteArray) (s : WS) (round : List ByteArray) : runR ways there (n + 1) s round = contX n ways there { s with more := [] } round := by
  rfl
theorem contX_nil (n : Nat) (ways : List (ByteArray × ByteArray)) (there : List ByteArray) (s : WS) : contX n ways there s [] = runR ways there n s s.more := rfl
theorem contX_cons (n : Nat) (ways : List (ByteArray × ByteArray)) (there : List ByteArray) (s : WS) (x : ByteArray) (rest : List ByteArray) : contX n ways there s (x :: rest) = contY n ways there x s (nextOf x ways) rest := by
  unfold contX contY; rw [runX]; cases runY there x s (nextOf x ways) <;> rfl
theorem contY_nil (n : Nat) (ways : List (ByteArray × ByteArray)) (there : List ByteArray) (x : ByteArray) (s : WS) (rest : List ByteArray) : contY n ways there x s [] rest = contX n ways there s rest := rfl
theorem contY_cons (n : Nat) (ways : List (ByteArray × ByteArray)) (there : List ByteArray) (x : ByteArray) (s : WS) (y : ByteArray) (l rest : List ByteArray) :
    contY n ways there x s (y :: l) rest = match stepY there x s y with | .inl s' => contY n ways there x s' l rest | .inr e => e := by
  unfold contY; rw [runY]; cases stepY there x s y <;> rfl

set_option maxHeartbeats 400000 in
theorem walk_no (SV WV TV : Value) (s : List ByteArray) (ways : List (ByteArray × ByteArray)) (name : ByteArray) (w : World) (hS : Strs w SV s) (hW : Prs w WV ways) (hr : rightOf s ways = false) :
    Calls Try.prog 96 #[.agg #[SV, WV], .string name, TV] w fun e w' => e = .returned (.tuple #[.slice none 0 0, .map none, .string ⟨#[]⟩]) ∧ Mem none_ w [] w' := by
  obtain ⟨A, c, rfl, h1, h2, h3, h4⟩ := id hS
  obtain ⟨A', c', rfl, h1', h2', h3', h4'⟩ := id hW
  have HM0 := ((Mem.start (fp := none_) w).alloc (.cells #[.slice A s.length c, .slice A' ways.length c'] 59))
  go_enter Try.func96, Try.ntmps96
  go_wp2
  go_step3
  go_wp2_with (go_at_call 107; refine (right_calls _ _ s ways _ (hS.pure HM0.mu) (hW.pure HM0.mu)).mono ?_; rintro e w' ⟨rfl, HM1⟩)
  rw [Exit.noGoto_ret]
  go_ret3
  exact ⟨rfl, HM0.got HM1⟩

/-- What stays true all along: of a round, and of what is made of it (B: how long its names may be). -/
structure WOk (s : WS) (B : Nat) (round : List ByteArray) (R : Nat) : Prop where
  len : s.makes.length = s.all.length + 1
  le : s.makes.length ≤ 512
  more : s.more.length ≤ s.all.length
  small : ∀ y, y ∈ s.more → y.size ≤ B
  rlen : round.length ≤ 512
  rsmall : ∀ y, y ∈ round → y.size ≤ R
theorem nextOf_size {x y : ByteArray} {ways : List (ByteArray × ByteArray)} (hw : ∀ p, p ∈ ways → p.1.size ≤ 1099511627776) (h : y ∈ nextOf x ways) : y.size ≤ x.size + 1099511627776 := by
  unfold nextOf at h
  obtain ⟨p, hp, hy⟩ := List.mem_filterMap.1 h
  split at hy
  · have := hw p hp
    cases hy
    have h2 : (cutSuf x p.2).size ≤ x.size := by unfold cutSuf; simp
    simp only [ByteArray.size_append]
    omega
  · cases hy
theorem WOk.push {s : WS} {B R : Nat} {round : List ByteArray} {x y : ByteArray} (h : WOk s B round R) (hh : mhas s.makes y = false) (hf : ¬ s.makes.length = 512) (hy : y.size ≤ B) :
    WOk ⟨mput s.makes y x, s.more ++ [y], s.all ++ [y]⟩ B round R := by
  have h1 := h.len
  have h2 := h.le
  have h3 := h.more
  refine ⟨?_, ?_, ?_, fun z hz => ?_, h.rlen, h.rsmall⟩
  · simp only [mput_length, hh, List.length_append, List.length_cons, List.length_nil]; simp; omega
  · simp only [mput_length, hh]; simp; omega
  · simp; omega
  · rcases List.mem_append.1 hz with hz | hz
    · exact h.small z hz
    · simp at hz; subst hz; exact hy
theorem WOk.start {name : ByteArray} (hn : name.size ≤ 1099511627776) : WOk ⟨[(name, name)], [], []⟩ (1099511627776 * (0 + 1)) [name] (1099511627776 * (0 + 1)) :=
  ⟨rfl, by simp, by simp, by simp, by simp, by simpa using hn⟩
set_option maxHeartbeats 4000000 in
theorem walk_yes (SV WV TV : Value) (s : List ByteArray) (ways : List (ByteArray × ByteArray)) (name : ByteArray) (there : List ByteArray) (w : World) (hS : Strs w SV s) (hW : Prs w WV ways) (hT : Strs w TV there) (hr : rightOf s ways = true)
    (hn : name.size ≤ 1099511627776) (hw : ∀ p, p ∈ ways → p.1.size ≤ 1099511627776) (hl : ways.length ≤ 256) :
    Calls Try.prog 96 #[.agg #[SV, WV], .string name, TV] w fun e w' => ∃ v b, e = .returned (.tuple #[v, .map (some b), .string (walkOf ways name there).2]) ∧
      Mem none_ w [StrRow v (walkOf ways name there).1.all, MapC b Value.string Value.string (walkOf ways name there).1.makes] w' := by
  obtain ⟨A, c, rfl, h1, h2, h3, h4⟩ := id hS
  obtain ⟨A', c', rfl, h1', h2', h3', h4'⟩ := id hW
  have HM0 := ((Mem.start (fp := none_) w).box #[.slice A s.length c, .slice A' ways.length c'] 59)
  have hmm := @run_makeMap Try.prog
  go_enter Try.func96, Try.ntmps96
  go_wp2
  go_step3
  go_wp2_with (first | (go_at_call 107; refine (right_calls _ _ s ways _ (hS.pure HM0.mu) (hW.pure HM0.mu)).mono ?_; rintro e w1 ⟨rfl, HM1'⟩; have HM1 := MapC.made (HM0.got HM1') Value.string Value.string) | (refine wpList_put keyS Try.underlying64 rfl _ _ _ (.inr rfl) HM1 rfl name rfl name rfl ?_; intro w2 HM2 HU2))
  go_step3
  go_wp2
  have HM3 := (HM2.lit1 name).nilS
  go_loopw [10, 11, 12, 29] (fun v10 v11 v12 v29 wr => ∃ (r : Nat) (st : WS) (round : List ByteArray), r ≤ 7 ∧ v29 = .int .i64 r ∧ v12 = .string ⟨#[]⟩ ∧ Hid (walkOf ways name there = runR ways there (7 - r) st round) ∧
      WOk st (1099511627776 * (r + 1)) round (1099511627776 * (r + 1)) ∧ Mem none_ w [MapC w1.heap.size Value.string Value.string st.makes, StrRow v11 st.all, StrRow v10 round, Blk w.heap.size 59 #[.slice A s.length c, .slice A' ways.length c']] wr) (fun _ _ _ i _ => 7 - (intOf i).toNat)
  case atStart => exact ⟨0, ⟨[(name, name)], [], []⟩, [name], by omega, rfl, rfl, by unfold Hid; rfl, WOk.start hn, HM3.sel [2, 0, 1, 3] (by decide)⟩
  case round =>
    clear HM3 HM2 HM1
    obtain ⟨r, st, round, hr7, rfl, rfl, HK, HO, HM⟩ := hrel
    obtain ⟨wo, rfl⟩ : ∃ wo : World, wo = wr := ⟨_, rfl⟩
    obtain ⟨Ar, cr, rfl, hr1, hr2, hr3, hr4⟩ := Row.sl HM.tail.tail.head
    unfold maxLen at hr2
    by_cases hlt : r < 7
    · have hlt0 : decide ((r : Int) < 7) = true := decide_eq_true (by omega)
      go_wp2
      have HM4 := HM.nilS
      go_loopw [11, 12, 13, 33] (fun v11 v12 v13 v33 wr => ∃ (i : Nat) (st : WS), i ≤ round.length ∧ v33 = .int .i64 i ∧ v12 = .string ⟨#[]⟩ ∧ Hid (walkOf ways name there = contX (6 - r) ways there st (round.drop i)) ∧
        WOk st (1099511627776 * (r + 2)) round (1099511627776 * (r + 1)) ∧ Mem none_ w [MapC w1.heap.size Value.string Value.string st.makes, StrRow v11 st.all, StrRow v13 st.more, StrRow (.slice Ar round.length cr) round, Blk w.heap.size 59 #[.slice A s.length c, .slice A' ways.length c']] wr) (fun _ _ _ i _ => round.length - (intOf i).toNat)
      case atStart => exact ⟨0, { st with more := [] }, by omega, rfl, rfl, by unfold Hid; rw [HK.out, show 7 - r = (6 - r) + 1 from by omega, runR_succ]; rfl, ⟨HO.len, HO.le, by simp, by simp, HO.rlen, HO.rsmall⟩, HM4.sel [1, 2, 0, 3, 4] (by decide)⟩
      case round =>
        clear HM4 HM HK HO
        obtain ⟨i, st, hi, rfl, rfl, HK, HO, HM⟩ := hrel
        obtain ⟨wo2, rfl⟩ : ∃ wo2 : World, wo2 = wr := ⟨_, rfl⟩
        by_cases hlt2 : i < round.length
        · obtain ⟨_, _, eq1, _, _, _, hr4⟩ := Row.sl HM.tail.tail.tail.head
          cases eq1
          obtain ⟨b, o, rfl, hcells⟩ := hr4.resolve_left (by omega)
          have hx0 : wo2.cell? ⟨b, o + i, none⟩ = some (.string round[i]) := hcells i _ (strs_get hlt2)
          clear hcells
          have hbx : wo2.cell? ⟨w.heap.size, 1, none⟩ = some (.slice A' ways.length c') := Blk.cell HM.tail.tail.tail.tail.head 1
          have hxs : round[i].size ≤ 10995116277760 := by have := HO.rsmall _ (List.getElem_mem hlt2); omega
          have HC : Hid (contX (6 - r) ways there st (round.drop i) = contY (6 - r) ways there round[i] st (nextOf round[i] ways) (round.drop (i + 1))) := by
            unfold Hid; rw [List.drop_eq_getElem_cons hlt2, contX_cons]
          go_wp2_with (first | (go_at_call 108; refine (next_calls _ _ ways _ _ (hW.pure HM.mu) hbx (by omega) (by omega) (fun p hp => by have := hw p hp; omega)).mono ?_; rintro e w3 ⟨v3, rfl, HMn⟩; obtain ⟨An, cn, rfl, hn1, hn2, hn3, hn4⟩ := Row.sl HMn.head))
          have HM5 := HM.got HMn
          unfold maxLen at hn2
          clear hx0 hbx HMn
          generalize hys : nextOf round[i] ways = ys at *
          have Hys := Lib.hid hys
          clear hys
          go_loopw [11, 12, 13, 40] (fun v11 v12 v13 v40 wr => ∃ (j : Nat) (st : WS), j ≤ ys.length ∧ v40 = .int .i64 j ∧ v12 = .string ⟨#[]⟩ ∧ Hid (walkOf ways name there = contY (6 - r) ways there round[i] st (ys.drop j) (round.drop (i + 1))) ∧
            WOk st (1099511627776 * (r + 2)) round (1099511627776 * (r + 1)) ∧ Mem none_ w [MapC w1.heap.size Value.string Value.string st.makes, StrRow v11 st.all, StrRow v13 st.more, StrRow (.slice An ys.length cn) ys, StrRow (.slice (some ⟨b, o, none⟩) round.length cr) round, Blk w.heap.size 59 #[.slice A s.length c, .slice A' ways.length c']] wr) (fun _ _ _ i _ => ys.length - (intOf i).toNat)
          case atStart => exact ⟨0, st, by omega, rfl, rfl, by unfold Hid; rw [HK.out, HC.out]; rfl, HO, HM5.sel [1, 2, 3, 0, 4, 5] (by decide)⟩
          case round =>
            clear HM5 HM HK HO HC
            obtain ⟨j, st, hj, rfl, rfl, HK, HO, HM⟩ := hrel
            by_cases hlt3 : j < ys.length
            · obtain ⟨_, _, eq1, _, _, _, hn4⟩ := Row.sl HM.tail.tail.tail.head
              cases eq1
              obtain ⟨b', o', rfl, hcells⟩ := hn4.resolve_left (by omega)
              have hx0 : wr.cell? ⟨b', o' + j, none⟩ = some (.string ys[j]) := hcells j _ (strs_get hlt3)
              clear hcells
              have HC : Hid (contY (6 - r) ways there round[i] st (ys.drop j) (round.drop (i + 1)) = match stepY there round[i] st ys[j] with | .inl s' => contY (6 - r) ways there round[i] s' (ys.drop (j + 1)) (round.drop (i + 1)) | .inr e => e) := by
                unfold Hid; rw [List.drop_eq_getElem_cons hlt3, contY_cons]
              generalize hy : ys[j] = y at *
              have hys : y.size ≤ 1099511627776 * (r + 2) := by
                have h0 : y ∈ nextOf round[i] ways := by rw [Hys.out, ← hy]; exact List.getElem_mem _
                have h1 := nextOf_size hw h0
                have h2 := HO.rsmall _ (List.getElem_mem hlt2)
                omega
              clear hy
              cases hh : mhas st.makes y
              · by_cases hfull : st.makes.length = 512
                · have HW : Hid (walkOf ways name there = (st, ⟨#[]⟩)) := by unfold Hid; rw [HK.out, HC.out]; simp [stepY, hh, hfull]
                  have hb1 : ((st.makes.length : Int) == 512) = true := by rw [beq_iff_eq]; omega
                  clear hfull
                  go_wp2_with (first | (at_lookup; refine wpList_getOk keyS Try.underlying64 zeroS rfl _ _ rfl HM.head rfl _ rfl _ hh ?_; intro r0) | (at_len; refine wpList_lenM Try.underlying64 rfl _ rfl HM.head rfl ?_))
                  rw [Exit.noGoto_ret]
                  go_ret3
                  exact ⟨_, w1.heap.size, by rw [HW.out]; rfl, by rw [HW.out]; exact HM.sel [1, 0] (by decide)⟩
                · have hb1 : ((st.makes.length : Int) == 512) = false := by rw [beq_eq_false_iff_ne]; omega
                  have hle := HO.le
                  have hlen := HO.len
                  have hmo := HO.more
                  have HO2 := HO.push (x := round[i]) hh hfull hys
                  cases hmt : mem there y
                  · have HS : Hid (stepY there round[i] st y = .inl ⟨mput st.makes y round[i], st.more ++ [y], st.all ++ [y]⟩) := by unfold Hid; simp [stepY, hh, hfull, hmt]
                    clear hfull
                    go_wp2_with (first | (at_lookup; refine wpList_getOk keyS Try.underlying64 zeroS rfl _ _ rfl HM.head rfl _ rfl _ hh ?_; intro r0) | (at_len; refine wpList_lenM Try.underlying64 rfl _ rfl HM.head rfl ?_) | (at_mapUpdate; refine wpList_put keyS Try.underlying64 rfl _ _ _ (.inl rfl) HM rfl _ rfl _ rfl ?_; intro w4 HM6 HU6) | (at_builtin; refine wpList_appS strE rfl _ _ rfl (HM6.sel [2, 0, 1, 3, 4, 5] (by decide)) rfl _ _ rfl ?hnb ?hb ?_; (case hnb => simp); (case hb => omega); intro v5 w5 HM7 HU7) | (at_builtin; refine wpList_appS strE rfl _ _ rfl (HM7.sel [2, 0, 1, 3, 4, 5] (by decide)) rfl _ _ rfl ?hnb ?hb ?_; (case hnb => simp); (case hb => omega); intro v6 w6 HM8 HU8) | (go_at_call 41; refine (contains_calls _ _ _ _ (hT.pure HM8.mu)).mono ?_; rintro e w7 ⟨rfl, rfl⟩))
                    go_roundw
                    case rel => exact ⟨j + 1, _, by omega, by go_num, rfl, by unfold Hid; rw [HK.out, HC.out, HS.out], HO2, HM8.sel [2, 0, 1, 3, 4, 5] (by decide)⟩
                    case measure => simp [intOf]; omega
                  · have HW : Hid (walkOf ways name there = (⟨mput st.makes y round[i], st.more ++ [y], st.all ++ [y]⟩, y)) := by unfold Hid; rw [HK.out, HC.out]; simp [stepY, hh, hfull, hmt]
                    clear hfull
                    go_wp2_with (first | (at_lookup; refine wpList_getOk keyS Try.underlying64 zeroS rfl _ _ rfl HM.head rfl _ rfl _ hh ?_; intro r0) | (at_len; refine wpList_lenM Try.underlying64 rfl _ rfl HM.head rfl ?_) | (at_mapUpdate; refine wpList_put keyS Try.underlying64 rfl _ _ _ (.inl rfl) HM rfl _ rfl _ rfl ?_; intro w4 HM6 HU6) | (at_builtin; refine wpList_appS strE rfl _ _ rfl (HM6.sel [2, 0, 1, 3, 4, 5] (by decide)) rfl _ _ rfl ?hnb ?hb ?_; (case hnb => simp); (case hb => omega); intro v5 w5 HM7 HU7) | (at_builtin; refine wpList_appS strE rfl _ _ rfl (HM7.sel [2, 0, 1, 3, 4, 5] (by decide)) rfl _ _ rfl ?hnb ?hb ?_; (case hnb => simp); (case hb => omega); intro v6 w6 HM8 HU8) | (go_at_call 41; refine (contains_calls _ _ _ _ (hT.pure HM8.mu)).mono ?_; rintro e w7 ⟨rfl, rfl⟩))
                    rw [Exit.noGoto_ret]
                    go_ret3
                    exact ⟨_, w1.heap.size, by rw [HW.out]; rfl, by rw [HW.out]; exact HM8.sel [0, 2] (by decide)⟩
              · go_wp2_with (first | (at_lookup; refine wpList_getOk keyS Try.underlying64 zeroS rfl _ _ rfl HM.head rfl _ rfl _ hh ?_; intro r0))
                go_roundw
                case rel => exact ⟨j + 1, st, by omega, by go_num, rfl, by unfold Hid; rw [HK.out, HC.out]; simp [stepY, hh], HO, HM⟩
                case measure => simp [intOf]; omega
            · go_wp2
              go_roundw
              case rel =>
                have e : j = ys.length := by omega
                exact ⟨i + 1, st, by omega, by go_num, rfl, by unfold Hid; rw [HK.out, e, List.drop_length, contY_nil], HO, HM.sel [0, 1, 2, 4, 5] (by decide)⟩
              case measure => simp [intOf]; omega
        · have e : i = round.length := by omega
          go_wp2
          go_roundw
          case rel => exact ⟨r + 1, st, st.more, by omega, by go_num, rfl, by unfold Hid; rw [HK.out, e, List.drop_length, contX_nil, show 7 - (r + 1) = 6 - r from by omega], ⟨HO.len, HO.le, HO.more, HO.small, by have := HO.more; have := HO.len; have := HO.le; omega, HO.small⟩, HM.sel [0, 1, 2, 4] (by decide)⟩
          case measure => simp [intOf]; omega
    · have HW : Hid (walkOf ways name there = (st, ⟨#[]⟩)) := by unfold Hid; rw [HK.out, show 7 - r = 0 from by omega]; rfl
      go_wp2
      (try rw [Exit.noGoto_ret])
      go_ret3
      exact ⟨_, w1.heap.size, by rw [HW.out]; rfl, by rw [HW.out]; exact HM.sel [1, 0] (by decide)⟩
end Go.Proofs.Ytliglejbkpjamaa
