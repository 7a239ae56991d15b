/-
  The walks of layer 15 (suff): the names that a name can be made of.
-/
/-
  The walks of layer 15 (suff): chains, and what can be reached.
-/
/-
  The walks of layer 15 (suff): the references, and the small functions of the statements.
-/
/-
  Layer 15 (suff), without Go: what the walk over all names comes to.
-/
/-
  Layer 15 (suff) as layer 16 calls it: chains, with raised bounds.
-/
import Derived.Test.YtliglejbkpjamaaVSuffA
import Derived.Deep.LoopGhost
set_option linter.unusedVariables false
set_option linter.unusedSimpArgs false
section
namespace Go.Proofs.Ytliglejbkpjamaa
open Go.RowKit

structure WS where
  makes : List (ByteArray × ByteArray)
  more : List ByteArray
  all : List ByteArray

def stepY (there : List ByteArray) (x : ByteArray) (s : WS) (y : ByteArray) : WS ⊕ (WS × ByteArray) :=
  if mhas s.makes y then .inl s
  else if s.makes.length = 512 then .inr (s, ⟨#[]⟩)
  else if mem there y then .inr (⟨mput s.makes y x, s.more ++ [y], s.all ++ [y]⟩, y) else .inl ⟨mput s.makes y x, s.more ++ [y], s.all ++ [y]⟩
def runY (there : List ByteArray) (x : ByteArray) : WS → List ByteArray → WS ⊕ (WS × ByteArray)
  | s, [] => .inl s
  | s, y :: r => match stepY there x s y with | .inl s' => runY there x s' r | .inr e => .inr e
def runX (ways : List (ByteArray × ByteArray)) (there : List ByteArray) : WS → List ByteArray → WS ⊕ (WS × ByteArray)
  | s, [] => .inl s
  | s, x :: r => match runY there x s (nextOf x ways) with | .inl s' => runX ways there s' r | .inr e => .inr e
def runR (ways : List (ByteArray × ByteArray)) (there : List ByteArray) : Nat → WS → List ByteArray → WS × ByteArray
  | 0, s, _ => (s, ⟨#[]⟩)
  | n + 1, s, round => match runX ways there { s with more := [] } round with | .inl s' => runR ways there n s' s'.more | .inr e => e
def walkOf (ways : List (ByteArray × ByteArray)) (name : ByteArray) (there : List ByteArray) : WS × ByteArray := runR ways there 7 ⟨[(name, name)], [], []⟩ [name]

def contX (n : Nat) (ways : List (ByteArray × ByteArray)) (there : List ByteArray) (s : WS) (l : List ByteArray) : WS × ByteArray := match runX ways there s l with | .inl s' => runR ways there n s' s'.more | .inr e => e
def contY (n : Nat) (ways : List (ByteArray × ByteArray)) (there : List ByteArray) (x : ByteArray) (s : WS) (l rest : List ByteArray) : WS × ByteArray := match runY there x s l with | .inl s' => contX n ways there s' rest | .inr e => e
theorem runR_succ (n : Nat) (ways : List (ByteArray × ByteArray)) (there : List ByteArray) (s : WS) (round : List ByteArray) : runR ways there (n + 1) s round = contX n ways there { s with more := [] } round := by
  rfl
theorem contX_nil (n : Nat) (ways : List (ByteArray × ByteArray)) (there : List ByteArray) (s : WS) : contX n ways there s [] = runR ways there n s s.more := rfl
theorem contX_cons (n : Nat) (ways : List (ByteArray × ByteArray)) (there : List ByteArray) (s : WS) (x : ByteArray) (rest : List ByteArray) : contX n ways there s (x :: rest) = contY n ways there x s (nextOf x ways) rest := by
  unfold contX contY; rw [runX]; cases runY there x s (nextOf x ways) <;> rfl
theorem contY_nil (n : Nat) (ways : List (ByteArray × ByteArray)) (there : List ByteArray) (x : ByteArray) (s : WS) (rest : List ByteArray) : contY n ways there x s [] rest = contX n ways there s rest := rfl
theorem contY_cons (n : Nat) (ways : List (ByteArray × ByteArray)) (there : List ByteArray) (x : ByteArray) (s : WS) (y : ByteArray) (l rest : List ByteArray) :
    contY n ways there x s (y :: l) rest = match stepY there x s y with | .inl s' => contY n ways there x s' l rest | .inr e => e := by
  unfold contY; rw [runY]; cases stepY there x s y <;> rfl

set_option maxHeartbeats 400000 in
theorem walk_no (SV WV TV : Value) (s : List ByteArray) (ways : List (ByteArray × ByteArray)) (name : ByteArray) (w : World) (hS : Strs w SV s) (hW : Prs w WV ways) (hr : rightOf s ways = false) :
    Calls Try.prog 96 #[.agg #[SV, WV], .string name, TV] w fun e w' => e = .returned (.tuple #[.slice none 0 0, .map none, .string ⟨#[]⟩]) ∧ Mem none_ w [] w' := by
  obtain ⟨A, c, rfl, h1, h2, h3, h4⟩ := id hS
  obtain ⟨A', c', rfl, h1', h2', h3', h4'⟩ := id hW
  have HM0 := ((Mem.start (fp := none_) w).alloc (.cells #[.slice A s.length c, .slice A' ways.length c'] 59))
  go_enter Try.func96, Try.ntmps96
  go_wp2
  go_step3
  go_wp2_with (go_at_call 107; refine (right_calls _ _ s ways _ (hS.pure HM0.mu) (hW.pure HM0.mu)).mono ?_; rintro e w' ⟨rfl, HM1⟩)
  rw [Exit.noGoto_ret]
  go_ret3
  exact ⟨rfl, HM0.got HM1⟩

/-- What stays true all along: of a round, and of what is made of it (B: how long its names may be). -/
structure WOk (s : WS) (B : Nat) (round : List ByteArray) (R : Nat) : Prop where
  len : s.makes.length = s.all.length + 1
  le : s.makes.length ≤ 512
  more : s.more.length ≤ s.all.length
  small : ∀ y, y ∈ s.more → y.size ≤ B
  rlen : round.length ≤ 512
  rsmall : ∀ y, y ∈ round → y.size ≤ R
theorem nextOf_size {x y : ByteArray} {ways : List (ByteArray × ByteArray)} (hw : ∀ p, p ∈ ways → p.1.size ≤ 1099511627776) (h : y ∈ nextOf x ways) : y.size ≤ x.size + 1099511627776 := by
  unfold nextOf at h
  obtain ⟨p, hp, hy⟩ := List.mem_filterMap.1 h
  split at hy
  · have := hw p hp
    cases hy
    have h2 : (cutSuf x p.2).size ≤ x.size := by unfold cutSuf; simp
    simp only [ByteArray.size_append]
    omega
  · cases hy
theorem WOk.push {s : WS} {B R : Nat} {round : List ByteArray} {x y : ByteArray} (h : WOk s B round R) (hh : mhas s.makes y = false) (hf : ¬ s.makes.length = 512) (hy : y.size ≤ B) :
    WOk ⟨mput s.makes y x, s.more ++ [y], s.all ++ [y]⟩ B round R := by
  have h1 := h.len
  have h2 := h.le
  have h3 := h.more
  refine ⟨?_, ?_, ?_, fun z hz => ?_, h.rlen, h.rsmall⟩
  · simp only [mput_length, hh, List.length_append, List.length_cons, List.length_nil]; simp; omega
  · simp only [mput_length, hh]; simp; omega
  · simp; omega
  · rcases List.mem_append.1 hz with hz | hz
    · exact h.small z hz
    · simp at hz; subst hz; exact hy
theorem WOk.start {name : ByteArray} (hn : name.size ≤ 1099511627776) : WOk ⟨[(name, name)], [], []⟩ (1099511627776 * (0 + 1)) [name] (1099511627776 * (0 + 1)) :=
  ⟨rfl, by simp, by simp, by simp, by simp, by simpa using hn⟩
set_option maxHeartbeats 4000000 in
theorem walk_yes (SV WV TV : Value) (s : List ByteArray) (ways : List (ByteArray × ByteArray)) (name : ByteArray) (there : List ByteArray) (w : World) (hS : Strs w SV s) (hW : Prs w WV ways) (hT : Strs w TV there) (hr : rightOf s ways = true)
    (hn : name.size ≤ 1099511627776) (hw : ∀ p, p ∈ ways → p.1.size ≤ 1099511627776) (hl : ways.length ≤ 256) :
    Calls Try.prog 96 #[.agg #[SV, WV], .string name, TV] w fun e w' => ∃ v b, e = .returned (.tuple #[v, .map (some b), .string (walkOf ways name there).2]) ∧
      Mem none_ w [StrRow v (walkOf ways name there).1.all, MapC b Value.string Value.string (walkOf ways name there).1.makes] w' := by
  obtain ⟨A, c, rfl, h1, h2, h3, h4⟩ := id hS
  obtain ⟨A', c', rfl, h1', h2', h3', h4'⟩ := id hW
  have HM0 := ((Mem.start (fp := none_) w).box #[.slice A s.length c, .slice A' ways.length c'] 59)
  have hmm := @run_makeMap Try.prog
  go_enter Try.func96, Try.ntmps96
  go_wp2
  go_step3
  go_wp2_with (first | (go_at_call 107; refine (right_calls _ _ s ways _ (hS.pure HM0.mu) (hW.pure HM0.mu)).mono ?_; rintro e w1 ⟨rfl, HM1'⟩; have HM1 := MapC.made (HM0.got HM1') Value.string Value.string) | (refine wpList_put keyS Try.underlying64 rfl _ _ _ (.inr rfl) HM1 rfl name rfl name rfl ?_; intro w2 HM2 HU2))
  go_step3
  go_wp2
  have HM3 := (HM2.lit1 name).nilS
  go_loopw [10, 11, 12, 29] (fun v10 v11 v12 v29 wr => ∃ (r : Nat) (st : WS) (round : List ByteArray), r ≤ 7 ∧ v29 = .int .i64 r ∧ v12 = .string ⟨#[]⟩ ∧ Hid (walkOf ways name there = runR ways there (7 - r) st round) ∧
      WOk st (1099511627776 * (r + 1)) round (1099511627776 * (r + 1)) ∧ Mem none_ w [MapC w1.heap.size Value.string Value.string st.makes, StrRow v11 st.all, StrRow v10 round, Blk w.heap.size 59 #[.slice A s.length c, .slice A' ways.length c']] wr) (fun _ _ _ i _ => 7 - (intOf i).toNat)
  case atStart => exact ⟨0, ⟨[(name, name)], [], []⟩, [name], by omega, rfl, rfl, by unfold Hid; rfl, WOk.start hn, HM3.sel [2, 0, 1, 3] (by decide)⟩
  case round =>
    clear HM3 HM2 HM1
    obtain ⟨r, st, round, hr7, rfl, rfl, HK, HO, HM⟩ := hrel
    obtain ⟨wo, rfl⟩ : ∃ wo : World, wo = wr := ⟨_, rfl⟩
    obtain ⟨Ar, cr, rfl, hr1, hr2, hr3, hr4⟩ := Row.sl HM.tail.tail.head
    unfold maxLen at hr2
    by_cases hlt : r < 7
    · have hlt0 : decide ((r : Int) < 7) = true := decide_eq_true (by omega)
      go_wp2
      have HM4 := HM.nilS
      go_loopw [11, 12, 13, 33] (fun v11 v12 v13 v33 wr => ∃ (i : Nat) (st : WS), i ≤ round.length ∧ v33 = .int .i64 i ∧ v12 = .string ⟨#[]⟩ ∧ Hid (walkOf ways name there = contX (6 - r) ways there st (round.drop i)) ∧
        WOk st (1099511627776 * (r + 2)) round (1099511627776 * (r + 1)) ∧ Mem none_ w [MapC w1.heap.size Value.string Value.string st.makes, StrRow v11 st.all, StrRow v13 st.more, StrRow (.slice Ar round.length cr) round, Blk w.heap.size 59 #[.slice A s.length c, .slice A' ways.length c']] wr) (fun _ _ _ i _ => round.length - (intOf i).toNat)
      case atStart => exact ⟨0, { st with more := [] }, by omega, rfl, rfl, by unfold Hid; rw [HK.out, show 7 - r = (6 - r) + 1 from by omega, runR_succ]; rfl, ⟨HO.len, HO.le, by simp, by simp, HO.rlen, HO.rsmall⟩, HM4.sel [1, 2, 0, 3, 4] (by decide)⟩
      case round =>
        clear HM4 HM HK HO
        obtain ⟨i, st, hi, rfl, rfl, HK, HO, HM⟩ := hrel
        obtain ⟨wo2, rfl⟩ : ∃ wo2 : World, wo2 = wr := ⟨_, rfl⟩
        by_cases hlt2 : i < round.length
        · obtain ⟨_, _, eq1, _, _, _, hr4⟩ := Row.sl HM.tail.tail.tail.head
          cases eq1
          obtain ⟨b, o, rfl, hcells⟩ := hr4.resolve_left (by omega)
          have hx0 : wo2.cell? ⟨b, o + i, none⟩ = some (.string round[i]) := hcells i _ (strs_get hlt2)
          clear hcells
          have hbx : wo2.cell? ⟨w.heap.size, 1, none⟩ = some (.slice A' ways.length c') := Blk.cell HM.tail.tail.tail.tail.head 1
          have hxs : round[i].size ≤ 10995116277760 := by have := HO.rsmall _ (List.getElem_mem hlt2); omega
          have HC : Hid (contX (6 - r) ways there st (round.drop i) = contY (6 - r) ways there round[i] st (nextOf round[i] ways) (round.drop (i + 1))) := by
            unfold Hid; rw [List.drop_eq_getElem_cons hlt2, contX_cons]
          go_wp2_with (first | (go_at_call 108; refine (next_calls _ _ ways _ _ (hW.pure HM.mu) hbx (by omega) (by omega) (fun p hp => by have := hw p hp; omega)).mono ?_; rintro e w3 ⟨v3, rfl, HMn⟩; obtain ⟨An, cn, rfl, hn1, hn2, hn3, hn4⟩ := Row.sl HMn.head))
          have HM5 := HM.got HMn
          unfold maxLen at hn2
          clear hx0 hbx HMn
          generalize hys : nextOf round[i] ways = ys at *
          have Hys := Lib.hid hys
          clear hys
          go_loopw [11, 12, 13, 40] (fun v11 v12 v13 v40 wr => ∃ (j : Nat) (st : WS), j ≤ ys.length ∧ v40 = .int .i64 j ∧ v12 = .string ⟨#[]⟩ ∧ Hid (walkOf ways name there = contY (6 - r) ways there round[i] st (ys.drop j) (round.drop (i + 1))) ∧
            WOk st (1099511627776 * (r + 2)) round (1099511627776 * (r + 1)) ∧ Mem none_ w [MapC w1.heap.size Value.string Value.string st.makes, StrRow v11 st.all, StrRow v13 st.more, StrRow (.slice An ys.length cn) ys, StrRow (.slice (some ⟨b, o, none⟩) round.length cr) round, Blk w.heap.size 59 #[.slice A s.length c, .slice A' ways.length c']] wr) (fun _ _ _ i _ => ys.length - (intOf i).toNat)
          case atStart => exact ⟨0, st, by omega, rfl, rfl, by unfold Hid; rw [HK.out, HC.out]; rfl, HO, HM5.sel [1, 2, 3, 0, 4, 5] (by decide)⟩
          case round =>
            clear HM5 HM HK HO HC
            obtain ⟨j, st, hj, rfl, rfl, HK, HO, HM⟩ := hrel
            by_cases hlt3 : j < ys.length
            · obtain ⟨_, _, eq1, _, _, _, hn4⟩ := Row.sl HM.tail.tail.tail.head
              cases eq1
              obtain ⟨b', o', rfl, hcells⟩ := hn4.resolve_left (by omega)
              have hx0 : wr.cell? ⟨b', o' + j, none⟩ = some (.string ys[j]) := hcells j _ (strs_get hlt3)
              clear hcells
              have HC : Hid (contY (6 - r) ways there round[i] st (ys.drop j) (round.drop (i + 1)) = match stepY there round[i] st ys[j] with | .inl s' => contY (6 - r) ways there round[i] s' (ys.drop (j + 1)) (round.drop (i + 1)) | .inr e => e) := by
                unfold Hid; rw [List.drop_eq_getElem_cons hlt3, contY_cons]
              generalize hy : ys[j] = y at *
              have hys : y.size ≤ 1099511627776 * (r + 2) := by
                have h0 : y ∈ nextOf round[i] ways := by rw [Hys.out, ← hy]; exact List.getElem_mem _
                have h1 := nextOf_size hw h0
                have h2 := HO.rsmall _ (List.getElem_mem hlt2)
                omega
              clear hy
              cases hh : mhas st.makes y
              · by_cases hfull : st.makes.length = 512
                · have HW : Hid (walkOf ways name there = (st, ⟨#[]⟩)) := by unfold Hid; rw [HK.out, HC.out]; simp [stepY, hh, hfull]
                  have hb1 : ((st.makes.length : Int) == 512) = true := by rw [beq_iff_eq]; omega
                  clear hfull
                  go_wp2_with (first | (at_lookup; refine wpList_getOk keyS Try.underlying64 zeroS rfl _ _ rfl HM.head rfl _ rfl _ hh ?_; intro r0) | (at_len; refine wpList_lenM Try.underlying64 rfl _ rfl HM.head rfl ?_))
                  rw [Exit.noGoto_ret]
                  go_ret3
                  exact ⟨_, w1.heap.size, by rw [HW.out]; rfl, by rw [HW.out]; exact HM.sel [1, 0] (by decide)⟩
                · have hb1 : ((st.makes.length : Int) == 512) = false := by rw [beq_eq_false_iff_ne]; omega
                  have hle := HO.le
                  have hlen := HO.len
                  have hmo := HO.more
                  have HO2 := HO.push (x := round[i]) hh hfull hys
                  cases hmt : mem there y
                  · have HS : Hid (stepY there round[i] st y = .inl ⟨mput st.makes y round[i], st.more ++ [y], st.all ++ [y]⟩) := by unfold Hid; simp [stepY, hh, hfull, hmt]
                    clear hfull
                    go_wp2_with (first | (at_lookup; refine wpList_getOk keyS Try.underlying64 zeroS rfl _ _ rfl HM.head rfl _ rfl _ hh ?_; intro r0) | (at_len; refine wpList_lenM Try.underlying64 rfl _ rfl HM.head rfl ?_) | (at_mapUpdate; refine wpList_put keyS Try.underlying64 rfl _ _ _ (.inl rfl) HM rfl _ rfl _ rfl ?_; intro w4 HM6 HU6) | (at_builtin; refine wpList_appS strE rfl _ _ rfl (HM6.sel [2, 0, 1, 3, 4, 5] (by decide)) rfl _ _ rfl ?hnb ?hb ?_; (case hnb => simp); (case hb => omega); intro v5 w5 HM7 HU7) | (at_builtin; refine wpList_appS strE rfl _ _ rfl (HM7.sel [2, 0, 1, 3, 4, 5] (by decide)) rfl _ _ rfl ?hnb ?hb ?_; (case hnb => simp); (case hb => omega); intro v6 w6 HM8 HU8) | (go_at_call 41; refine (contains_calls _ _ _ _ (hT.pure HM8.mu)).mono ?_; rintro e w7 ⟨rfl, rfl⟩))
                    go_roundw
                    case rel => exact ⟨j + 1, _, by omega, by go_num, rfl, by unfold Hid; rw [HK.out, HC.out, HS.out], HO2, HM8.sel [2, 0, 1, 3, 4, 5] (by decide)⟩
                    case measure => simp [intOf]; omega
                  · have HW : Hid (walkOf ways name there = (⟨mput st.makes y round[i], st.more ++ [y], st.all ++ [y]⟩, y)) := by unfold Hid; rw [HK.out, HC.out]; simp [stepY, hh, hfull, hmt]
                    clear hfull
                    go_wp2_with (first | (at_lookup; refine wpList_getOk keyS Try.underlying64 zeroS rfl _ _ rfl HM.head rfl _ rfl _ hh ?_; intro r0) | (at_len; refine wpList_lenM Try.underlying64 rfl _ rfl HM.head rfl ?_) | (at_mapUpdate; refine wpList_put keyS Try.underlying64 rfl _ _ _ (.inl rfl) HM rfl _ rfl _ rfl ?_; intro w4 HM6 HU6) | (at_builtin; refine wpList_appS strE rfl _ _ rfl (HM6.sel [2, 0, 1, 3, 4, 5] (by decide)) rfl _ _ rfl ?hnb ?hb ?_; (case hnb => simp); (case hb => omega); intro v5 w5 HM7 HU7) | (at_builtin; refine wpList_appS strE rfl _ _ rfl (HM7.sel [2, 0, 1, 3, 4, 5] (by decide)) rfl _ _ rfl ?hnb ?hb ?_; (case hnb => simp); (case hb => omega); intro v6 w6 HM8 HU8) | (go_at_call 41; refine (contains_calls _ _ _ _ (hT.pure HM8.mu)).mono ?_; rintro e w7 ⟨rfl, rfl⟩))
                    rw [Exit.noGoto_ret]
                    go_ret3
                    exact ⟨_, w1.heap.size, by rw [HW.out]; rfl, by rw [HW.out]; exact HM8.sel [0, 2] (by decide)⟩
              · go_wp2_with (first | (at_lookup; refine wpList_getOk keyS Try.underlying64 zeroS rfl _ _ rfl HM.head rfl _ rfl _ hh ?_; intro r0))
                go_roundw
                case rel => exact ⟨j + 1, st, by omega, by go_num, rfl, by unfold Hid; rw [HK.out, HC.out]; simp [stepY, hh], HO, HM⟩
                case measure => simp [intOf]; omega
            · go_wp2
              go_roundw
              case rel =>
                have e : j = ys.length := by omega
                exact ⟨i + 1, st, by omega, by go_num, rfl, by unfold Hid; rw [HK.out, e, List.drop_length, contY_nil], HO, HM.sel [0, 1, 2, 4, 5] (by decide)⟩
              case measure => simp [intOf]; omega
        · have e : i = round.length := by omega
          go_wp2
          go_roundw
          case rel => exact ⟨r + 1, st, st.more, by omega, by go_num, rfl, by unfold Hid; rw [HK.out, e, List.drop_length, contX_nil, show 7 - (r + 1) = 6 - r from by omega], ⟨HO.len, HO.le, HO.more, HO.small, by have := HO.more; have := HO.len; have := HO.le; omega, HO.small⟩, HM.sel [0, 1, 2, 4] (by decide)⟩
          case measure => simp [intOf]; omega
    · have HW : Hid (walkOf ways name there = (st, ⟨#[]⟩)) := by unfold Hid; rw [HK.out, show 7 - r = 0 from by omega]; rfl
      go_wp2
      (try rw [Exit.noGoto_ret])
      go_ret3
      exact ⟨_, w1.heap.size, by rw [HW.out]; rfl, by rw [HW.out]; exact HM.sel [1, 0] (by decide)⟩
end Go.Proofs.Ytliglejbkpjamaa
end
section
namespace Go.Proofs.Ytliglejbkpjamaa
open Go.RowKit

def mval (m : List (ByteArray × ByteArray)) (x : ByteArray) : ByteArray := (mget m x).getD ⟨#[]⟩
/-- The way up from a name. -/
def up (m : List (ByteArray × ByteArray)) (name : ByteArray) : Nat → ByteArray → Option (List ByteArray)
  | 0, _ => none
  | n + 1, x => if x = name then some [] else (up m name n (mval m x)).map (mval m x :: ·)

theorem mval_get (m : List (ByteArray × ByteArray)) (x : ByteArray) : ((mget m x).map Value.string).getD (.string ⟨#[]⟩) = .string (mval m x) := by
  unfold mval; cases mget m x <;> rfl

theorem strs_nil (w : World) : Strs w (.slice none 0 0) [] := ⟨none, 0, rfl, Nat.le_refl _, Nat.zero_le _, rfl, .inl rfl⟩

set_option maxHeartbeats 1000000 in
theorem chain_no (SV WV TV : Value) (s : List ByteArray) (ways : List (ByteArray × ByteArray)) (name : ByteArray) (w : World) (hS : Strs w SV s) (hW : Prs w WV ways) (hr : rightOf s ways = false) :
    Calls Try.prog 76 #[.agg #[SV, WV], .string name, TV] w fun e w' => e = .returned (.tuple #[.slice none 0 0, .bool false]) ∧ Mem none_ w [] w' := by
  obtain ⟨A, c, rfl, h1, h2, h3, h4⟩ := id hS
  obtain ⟨A', c', rfl, h1', h2', h3', h4'⟩ := id hW
  have HM0 := ((Mem.start (fp := none_) w).alloc (.cells #[.slice A s.length c, .slice A' ways.length c'] 59))
  go_enter Try.func76, Try.ntmps76
  go_wp2_with (go_at_call 96; refine (walk_no _ _ _ s ways _ _ (hS.pure HM0.mu) (hW.pure HM0.mu) hr).mono ?_; rintro e w' ⟨rfl, HM1⟩)
  go_ret2
  exact ⟨rfl, HM0.got HM1⟩

/-- Is the last one what was looked for? -/
def hit (ways : List (ByteArray × ByteArray)) (name : ByteArray) (there : List ByteArray) : Bool :=
  match (walkOf ways name there).1.all.getLast? with | none => false | some x => (x.toList == (walkOf ways name there).2.toList) && mem there (walkOf ways name there).2

set_option maxHeartbeats 2000000 in
theorem chain_miss (SV WV TV : Value) (s : List ByteArray) (ways : List (ByteArray × ByteArray)) (name : ByteArray) (there : List ByteArray) (w : World) (hS : Strs w SV s) (hW : Prs w WV ways) (hT : Strs w TV there) (hr : rightOf s ways = true)
    (hn : name.size ≤ 1099511627776) (hw : ∀ p, p ∈ ways → p.1.size ≤ 1099511627776) (hl : ways.length ≤ 256) (hh : hit ways name there = false) :
    Calls Try.prog 76 #[.agg #[SV, WV], .string name, TV] w fun e w' => e = .returned (.tuple #[.slice none 0 0, .bool false]) ∧ Mem none_ w [] w' := by
  obtain ⟨A, c, rfl, h1, h2, h3, h4⟩ := id hS
  obtain ⟨A', c', rfl, h1', h2', h3', h4'⟩ := id hW
  have HM0 := ((Mem.start (fp := none_) w).alloc (.cells #[.slice A s.length c, .slice A' ways.length c'] 59))
  unfold hit at hh
  have HC := walk_yes _ _ _ s ways name there _ (hS.pure HM0.mu) (hW.pure HM0.mu) (hT.pure HM0.mu) hr hn hw hl
  generalize (walkOf ways name there).1 = st at *
  generalize (walkOf ways name there).2 = f at *
  rcases List.eq_nil_or_concat st.all with h | ⟨l0, x, h⟩
  · go_enter Try.func76, Try.ntmps76
    go_wp2_with (go_at_call 96; refine HC.mono ?_; rintro e w1 ⟨v1, b1, rfl, HM1⟩; rw [h] at HM1; obtain ⟨A1, c1, rfl, hv1, hv2, hv3, hv4⟩ := Row.sl HM1.head)
    go_ret2
    exact ⟨rfl, HM0.got (HM1.sel [] (by decide))⟩
  · rw [h] at hh
    simp only [List.concat_eq_append, List.getLast?_append, List.getLast?_singleton, Option.some_or] at hh
    cases he : (x.toList == f.toList)
    · go_enter Try.func76, Try.ntmps76
      go_wp2_with (go_at_call 96; refine HC.mono ?_; rintro e w1 ⟨v1, b1, rfl, HM1⟩; rw [h, List.concat_eq_append] at HM1; obtain ⟨A1, c1, rfl, hv1, hv2, hv3, hv4⟩ := Row.sl HM1.head; unfold maxLen at hv2; rw [List.length_append, List.length_singleton] at *; obtain ⟨b2, o2, rfl, hcells⟩ := hv4.resolve_left (by omega); have hx0 : w1.cell? ⟨b2, o2 + l0.length, none⟩ = some (.string x) := hcells l0.length _ (by simp [strs]); clear hcells)
      go_ret2
      exact ⟨rfl, HM0.got (HM1.sel [] (by decide))⟩
    · have hm : mem there f = false := by rw [he] at hh; exact hh
      clear hh
      go_enter Try.func76, Try.ntmps76
      go_wp2_with (first | (go_at_call 96; refine HC.mono ?_; rintro e w1 ⟨v1, b1, rfl, HM1⟩; rw [h, List.concat_eq_append] at HM1; obtain ⟨A1, c1, rfl, hv1, hv2, hv3, hv4⟩ := Row.sl HM1.head; unfold maxLen at hv2; rw [List.length_append, List.length_singleton] at *; obtain ⟨b2, o2, rfl, hcells⟩ := hv4.resolve_left (by omega); have hx0 : w1.cell? ⟨b2, o2 + l0.length, none⟩ = some (.string x) := hcells l0.length _ (by simp [strs]); clear hcells) | (go_at_call 41; refine (contains_calls _ _ _ _ (hT.pure (HM0.got HM1).mu)).mono ?_; rintro e w2 ⟨rfl, rfl⟩))
      go_ret2
      exact ⟨rfl, HM0.got (HM1.sel [] (by decide))⟩

theorem up_succ {m : List (ByteArray × ByteArray)} {name x : ByteArray} {n : Nat} {l : List ByteArray} (h : up m name (n + 1) x = some l) : (x = name ∧ l = []) ∨ (x ≠ name ∧ ∃ l', l = mval m x :: l' ∧ up m name n (mval m x) = some l') := by
  unfold up at h
  split at h
  · rename_i hx; cases h; exact .inl ⟨hx, rfl⟩
  · rename_i hx
    obtain ⟨l', h1, h2⟩ := Option.map_eq_some_iff.1 h
    exact .inr ⟨hx, l', h2.symm, h1⟩

set_option maxHeartbeats 2000000 in
theorem chain_hit (SV WV TV : Value) (s : List ByteArray) (ways : List (ByteArray × ByteArray)) (name : ByteArray) (there : List ByteArray) (w : World) (hS : Strs w SV s) (hW : Prs w WV ways) (hT : Strs w TV there) (hr : rightOf s ways = true)
    (hn : name.size ≤ 1099511627776) (hw : ∀ p, p ∈ ways → p.1.size ≤ 1099511627776) (hl : ways.length ≤ 256) (hh : hit ways name there = true) (N : Nat) (hN : N ≤ 1000) (L : List ByteArray) (hup : up (walkOf ways name there).1.makes name N (walkOf ways name there).2 = some L) :
    Calls Try.prog 76 #[.agg #[SV, WV], .string name, TV] w fun e w' => ∃ v, e = .returned (.tuple #[v, .bool true]) ∧ Mem none_ w [StrRow v ((walkOf ways name there).2 :: L)] w' := by
  obtain ⟨A, c, rfl, h1, h2, h3, h4⟩ := id hS
  obtain ⟨A', c', rfl, h1', h2', h3', h4'⟩ := id hW
  have HM0 := ((Mem.start (fp := none_) w).alloc (.cells #[.slice A s.length c, .slice A' ways.length c'] 59))
  unfold hit at hh
  have HC := walk_yes _ _ _ s ways name there _ (hS.pure HM0.mu) (hW.pure HM0.mu) (hT.pure HM0.mu) hr hn hw hl
  generalize (walkOf ways name there).1 = st at *
  generalize (walkOf ways name there).2 = f at *
  rcases List.eq_nil_or_concat st.all with h | ⟨l0, x, h⟩
  · rw [h] at hh; cases hh
  · rw [h] at hh
    simp only [List.concat_eq_append, List.getLast?_append, List.getLast?_singleton, Option.some_or, Bool.and_eq_true] at hh
    obtain ⟨he, hm⟩ := hh
    have HUP := Lib.hid hup
    clear hup
    go_enter Try.func76, Try.ntmps76
    go_wp2_with (first | (go_at_call 96; refine HC.mono ?_; rintro e w1 ⟨v1, b1, rfl, HM1⟩; rw [h, List.concat_eq_append] at HM1; obtain ⟨A1, c1, rfl, hv1, hv2, hv3, hv4⟩ := Row.sl HM1.head; unfold maxLen at hv2; rw [List.length_append, List.length_singleton] at *; obtain ⟨b2, o2, rfl, hcells⟩ := hv4.resolve_left (by omega); have hx0 : w1.cell? ⟨b2, o2 + l0.length, none⟩ = some (.string x) := hcells l0.length _ (by simp [strs]); clear hcells) | (go_at_call 41; refine (contains_calls _ _ _ _ (hT.pure (HM0.got HM1).mu)).mono ?_; rintro e w2 ⟨rfl, rfl⟩))
    have HM2 := ((HM0.got HM1).sel [1] (by decide)).lit1 f
    go_loopg [12, 13] N (fun n v12 v13 wr => ∃ (y : ByteArray) (l l' : List ByteArray), v13 = .string y ∧ n ≤ N ∧ l.length + n ≤ N + 1 ∧ Hid (up st.makes name n y = some l') ∧ Hid (f :: L = l ++ l') ∧ Mem none_ w [StrRow v12 l, MapC b1 Value.string Value.string st.makes] wr)
    case atStart => exact ⟨f, [f], L, rfl, Nat.le_refl _, by simp; omega, HUP, by unfold Hid; rfl, HM2⟩
    case round =>
      clear HM2 HUP
      obtain ⟨y, l, l', rfl, hg, hlen, HU, HL, HM⟩ := hrel
      cases gk with
      | zero => have := HU.out; unfold up at this; cases this
      | succ n =>
        rcases up_succ HU.out with ⟨hy, hl'⟩ | ⟨hy, l2, hl', hu2⟩
        · have ht : (y.toList == name.toList) = true := by rw [strEq, hy]; simp
          have HF : Hid (f :: L = l) := by unfold Hid; rw [HL.out, hl', List.append_nil]
          clear hy hl'
          go_wp2
          go_ret2
          exact ⟨_, rfl, by rw [HF.out]; exact HM.sel [0] (by decide)⟩
        · have ht : (y.toList == name.toList) = false := by rw [strEq]; simpa using hy
          have HU2 : Hid (up st.makes name n (mval st.makes y) = some l2) := hu2
          have HL2 : Hid (f :: L = (l ++ [mval st.makes y]) ++ l2) := by unfold Hid; rw [HL.out, hl']; simp
          clear hy hl' hu2
          go_wp2_with (first | (at_lookup; refine wpList_get keyS Try.underlying64 zeroS rfl _ _ _ rfl HM.tail.head rfl _ rfl _ (mval_get _ _) ?_) | (at_builtin; refine wpList_appS strE rfl _ _ rfl HM rfl _ _ rfl ?hnb ?hb ?_; (case hnb => simp); (case hb => omega); intro v5 w5 HM7 HU7))
          go_roundg n
          case rel => exact ⟨_, _, l2, rfl, by omega, by simp; omega, HU2, HL2, HM7⟩
          case measure => omega
end Go.Proofs.Ytliglejbkpjamaa
end
section
namespace Go.Proofs.Ytliglejbkpjamaa
open Go.RowKit

theorem quietW {P : Program} {f : FuncId} {args : Array Value} {w : World} {n : Nat} {v : Value}
    (h : Calls P f args (w.drewN n) fun e w' => e = .returned v ∧ w.drewN n = w') : Calls P f args (w.drewN n) fun e w'' => e = .returned v ∧ ∃ m, w'' = w.drewN m :=
  h.mono fun _ _ ⟨he, hm⟩ => ⟨he, n, hm.symm⟩

theorem mem_step {l : List ByteArray} {x : ByteArray} {k : Nat} (hlt : k < l.length) (hno : ∀ j, j < k → l[j]? ≠ some x) (he : ¬ l[k] = x) : ∀ j, j < k + 1 → l[j]? ≠ some x := by
  intro j hj
  by_cases hjk : j = k
  · subst hjk; rw [List.getElem?_eq_getElem hlt]; intro e; exact he (Option.some.inj e)
  · exact hno j (by omega)
theorem mem_end {l : List ByteArray} {x : ByteArray} (hno : ∀ j, j < l.length → l[j]? ≠ some x) : mem l x = false := by
  rw [mem_false]
  intro h
  obtain ⟨j, hj, e⟩ := List.getElem_of_mem h
  exact hno j hj (by rw [List.getElem?_eq_getElem hj, e])

def memP (l : List (ByteArray × ByteArray)) (x : ByteArray × ByteArray) : Bool := l.any (fun y => decide (x = y))
theorem memP_iff (l : List (ByteArray × ByteArray)) (x : ByteArray × ByteArray) : memP l x = true ↔ x ∈ l := by simp [memP]
theorem memP_end {l : List (ByteArray × ByteArray)} {x : ByteArray × ByteArray} (hno : ∀ j, j < l.length → l[j]? ≠ some x) : memP l x = false := by
  cases h : memP l x
  · rfl
  · rw [memP_iff] at h
    obtain ⟨j, hj, e⟩ := List.getElem_of_mem h
    exact absurd (by rw [List.getElem?_eq_getElem hj, e]) (hno j hj)

theorem eql_pair (a b : ByteArray × ByteArray) (w : World) : (binOp .eql 93 (.agg #[.string a.1, .string a.2]) (.agg #[.string b.1, .string b.2])).run Try.prog w = .ok (.bool (decide (a = b))) w := by
  have h := equal_pair (P := Try.prog) (st := 9) Try.underlying93 Try.underlying9 (by kernel_rfl) a b w
  simp only [binOp]
  unfold pairV at h
  simp [h]

def same (a b : List ByteArray) : Bool := decide (a = b)
theorem same_end {a b : List ByteArray} (hl : a.length = b.length) (h : ∀ j, j < a.length → a[j]? = b[j]?) : same a b = true := by
  refine decide_eq_true (List.ext_getElem? fun j => ?_)
  by_cases hj : j < a.length
  · exact h j hj
  · rw [List.getElem?_eq_none (by omega), List.getElem?_eq_none (by omega)]

set_option maxHeartbeats 1000000 in
theorem same_calls (V U : Value) (l m : List ByteArray) (w : World) (hV : Strs w V l) (hU : Strs w U m) :
    Calls Try.prog 17 #[V, U] w fun e w' => e = .returned (.bool (same l m)) ∧ Mem none_ w [] w' := by
  obtain ⟨A, c, rfl, h1, h2, h3, h4⟩ := hV
  obtain ⟨A', c', rfl, h1', h2', h3', h4'⟩ := hU
  unfold maxLen at h2 h2'
  by_cases hl : l.length = m.length
  · have hl0 : ((l.length : Int) != m.length) = false := by rw [bne_eq_false_iff_eq]; omega
    have hl1 := Lib.hid hl
    clear hl
    go_enter Try.func17, Try.ntmps17
    go_wp2
    go_loopw [5] (fun i wr => ∃ k : Nat, k ≤ l.length ∧ i = .int .i64 k ∧ Hid (∀ j, j < k → l[j]? = m[j]?) ∧ Mem none_ w [] wr) (fun i _ => l.length - (intOf i).toNat)
    case atStart => exact ⟨0, Nat.zero_le _, rfl, fun j hj => by omega, Mem.start _⟩
    case round =>
      obtain ⟨k, hk, rfl, hyes, HM⟩ := hrel
      by_cases hlt : k < l.length
      · have hlt' : k < m.length := by have := hl1.out; omega
        obtain ⟨b, o, rfl, hcells⟩ := h4.resolve_left (by omega)
        obtain ⟨b', o', rfl, hcells'⟩ := h4'.resolve_left (by omega)
        clear h4 h4'
        have hx0 : wr.cell? ⟨b, o + k, none⟩ = some (.string l[k]) := HM.mu.cell (hcells k _ (strs_get hlt)) (fun h => h)
        have hx1 : wr.cell? ⟨b', o' + k, none⟩ = some (.string m[k]) := HM.mu.cell (hcells' k _ (strs_get hlt')) (fun h => h)
        clear hcells hcells'
        by_cases he : l[k] = m[k]
        · have he' : (l[k].toList == m[k].toList) = true := by rw [strEq]; simp [he]
          have hy2 : Hid (∀ j, j < k + 1 → l[j]? = m[j]?) := by
            intro j hj
            by_cases hjk : j = k
            · subst hjk; rw [List.getElem?_eq_getElem hlt, List.getElem?_eq_getElem hlt', he]
            · exact hyes.out j (by omega)
          clear he
          go_wp2
          go_quiet (fail)
          go_wp2
          go_roundw
          case rel => exact ⟨k + 1, by omega, by go_num, hy2, HM.drewN _⟩
          case measure => simp [intOf]; omega
        · have he' : (l[k].toList == m[k].toList) = false := by rw [strEq]; simp [he]
          have HR : Hid (same l m = false) := by
            unfold Hid same
            refine decide_eq_false (fun e => he ?_)
            have := congrArg (fun l => l[k]?) e
            simpa [hlt, hlt'] using this
          clear he
          go_wp2
          go_quiet (fail)
          go_wp2
          go_ret
          exact ⟨ret_bool HR.out.symm, HM.drewN _⟩
      · have HR : Hid (same l m = true) := same_end hl1.out (fun j hj => hyes.out j (by omega))
        go_wp2
        go_ret
        exact ⟨ret_bool HR.out.symm, HM⟩
  · have hl0 : ((l.length : Int) != m.length) = true := by rw [bne_iff_ne]; omega
    have HR : Hid (same l m = false) := decide_eq_false (fun e => hl (by rw [e]))
    clear hl
    go_enter Try.func17, Try.ntmps17
    go_wp2
    go_ret
    exact ⟨ret_bool HR.out.symm, Mem.start _⟩

def farT (s : List ByteArray) (ways : List (ByteArray × ByteArray)) : Bool := decide (70 < s.length) || decide (30 < ways.length) || s.any (fun x => decide (50 < x.size))

end Go.Proofs.Ytliglejbkpjamaa
end
section
namespace Go.Proofs.Ytliglejbkpjamaa

section
variable {ways : List (ByteArray × ByteArray)} {name : ByteArray}

def fin_ : WS ⊕ (WS × ByteArray) → WS × ByteArray
  | .inl s => (s, ⟨#[]⟩)
  | .inr e => e

def Ext (s s' : WS) : Prop := s.all <+: s'.all ∧ s.makes <+: s'.makes
theorem Ext.refl (s : WS) : Ext s s := ⟨List.prefix_refl _, List.prefix_refl _⟩
theorem Ext.trans {a b c : WS} (h : Ext a b) (k : Ext b c) : Ext a c := ⟨h.1.trans k.1, h.2.trans k.2⟩
theorem mem_nil (y : ByteArray) : mem [] y = false := rfl
theorem mget_none {m : List (ByteArray × ByteArray)} {y : ByteArray} (h : mhas m y = false) : mget m y = none := by
  unfold mhas at h; cases hh : mget m y <;> simp_all
theorem prefix_put {m : List (ByteArray × ByteArray)} {y x : ByteArray} (h : mhas m y = false) : m <+: mput m y x := by
  rw [mput_new (mget_none h)]
  exact List.prefix_append _ _

theorem stepY_ext (there : List ByteArray) (x : ByteArray) (s : WS) (y : ByteArray) : Ext s (fin_ (stepY there x s y)).1 := by
  unfold stepY
  cases hh : mhas s.makes y
  · simp only [Bool.false_eq_true, if_false]
    split
    · exact Ext.refl _
    · split
      · exact ⟨List.prefix_append _ _, prefix_put hh⟩
      · exact ⟨List.prefix_append _ _, prefix_put hh⟩
  · simp only [if_true]; exact Ext.refl _
theorem runY_ext (there : List ByteArray) (x : ByteArray) : ∀ (l : List ByteArray) (s : WS), Ext s (fin_ (runY there x s l)).1
  | [], s => Ext.refl _
  | y :: l, s => by
    have h := stepY_ext there x s y
    unfold runY
    cases hh : stepY there x s y with
    | inl s' => rw [hh] at h; exact h.trans (runY_ext there x l s')
    | inr e => rw [hh] at h; exact h
theorem runX_ext (there : List ByteArray) : ∀ (l : List ByteArray) (s : WS), Ext s (fin_ (runX ways there s l)).1
  | [], s => Ext.refl _
  | x :: l, s => by
    have h := runY_ext there x (nextOf x ways) s
    unfold runX
    cases hh : runY there x s (nextOf x ways) with
    | inl s' => rw [hh] at h; exact h.trans (runX_ext there l s')
    | inr e => rw [hh] at h; exact h
theorem runR_ext (there : List ByteArray) : ∀ (n : Nat) (s : WS) (round : List ByteArray), Ext s (runR ways there n s round).1
  | 0, s, _ => Ext.refl _
  | n + 1, s, round => by
    have h := runX_ext (ways := ways) there round { s with more := [] }
    unfold runR
    cases hh : runX ways there { s with more := [] } round with
    | inl s' => rw [hh] at h; exact (show Ext s s' from h).trans (runR_ext there n s' s'.more)
    | inr e => rw [hh] at h; exact h

/-- What a run with something there comes to, held against the run with nothing there. -/
def RelS (there : List ByteArray) (s : WS) (r f : WS ⊕ (WS × ByteArray)) : Prop :=
  (r = f ∧ ∃ l, (fin_ f).1.all = s.all ++ l ∧ ∀ y, y ∈ l → y ∉ there) ∨
  ∃ s1 pre y, r = .inr (s1, y) ∧ s1.all = s.all ++ pre ++ [y] ∧ (∀ z, z ∈ pre → z ∉ there) ∧ y ∈ there ∧ Ext s1 (fin_ f).1

theorem RelS.comb {there : List ByteArray} {s s2 : WS} {r f : WS ⊕ (WS × ByteArray)} {l1 : List ByteArray} (h1 : s2.all = s.all ++ l1) (h2 : ∀ y, y ∈ l1 → y ∉ there) (h : RelS there s2 r f) : RelS there s r f := by
  rcases h with ⟨e, l, e1, hn⟩ | ⟨s1, pre, y, e, e1, hp, hy, hx⟩
  · refine .inl ⟨e, l1 ++ l, by rw [e1, h1, List.append_assoc], fun y hy => ?_⟩
    rcases List.mem_append.1 hy with hy | hy
    · exact h2 y hy
    · exact hn y hy
  · refine .inr ⟨s1, l1 ++ pre, y, e, by rw [e1, h1]; simp, fun z hz => ?_, hy, hx⟩
    rcases List.mem_append.1 hz with hz | hz
    · exact h2 z hz
    · exact hp z hz

theorem stepY_rel (there : List ByteArray) (x : ByteArray) (s : WS) (y : ByteArray) : RelS there s (stepY there x s y) (stepY [] x s y) := by
  unfold stepY
  cases hh : mhas s.makes y
  · simp only [Bool.false_eq_true, if_false, mem_nil]
    split
    · exact .inl ⟨rfl, [], by simp [fin_], by simp⟩
    · cases hm : mem there y
      · simp only [Bool.false_eq_true, if_false]
        exact .inl ⟨rfl, [y], rfl, by simpa using (mem_false there y).1 hm⟩
      · simp only [if_true]
        exact .inr ⟨_, [], y, rfl, by simp, by simp, (mem_iff there y).1 hm, Ext.refl _⟩
  · simp only [if_true]
    exact .inl ⟨rfl, [], by simp [fin_], by simp⟩
theorem runY_rel (there : List ByteArray) (x : ByteArray) : ∀ (l : List ByteArray) (s : WS), RelS there s (runY there x s l) (runY [] x s l)
  | [], s => .inl ⟨rfl, [], by simp [fin_, runY], by simp⟩
  | y :: l, s => by
    rcases stepY_rel there x s y with ⟨e, l1, e1, hn⟩ | ⟨s1, pre, z, e, e1, hp, hz, hx⟩
    · unfold runY
      rw [e]
      cases hh : stepY [] x s y with
      | inl s' => rw [hh] at e1; exact RelS.comb e1 hn (runY_rel there x l s')
      | inr p => rw [hh] at e1; exact .inl ⟨rfl, l1, e1, hn⟩
    · refine .inr ⟨s1, pre, z, by rw [runY, e], e1, hp, hz, hx.trans ?_⟩
      rw [runY]
      cases hh : stepY [] x s y with
      | inl s' => exact runY_ext [] x l s'
      | inr p => exact Ext.refl _
theorem runX_rel (there : List ByteArray) : ∀ (l : List ByteArray) (s : WS), RelS there s (runX ways there s l) (runX ways [] s l)
  | [], s => .inl ⟨rfl, [], by simp [fin_, runX], by simp⟩
  | x :: l, s => by
    rcases runY_rel there x (nextOf x ways) s with ⟨e, l1, e1, hn⟩ | ⟨s1, pre, z, e, e1, hp, hz, hx⟩
    · unfold runX
      rw [e]
      cases hh : runY [] x s (nextOf x ways) with
      | inl s' => rw [hh] at e1; exact RelS.comb e1 hn (runX_rel there l s')
      | inr p => rw [hh] at e1; exact .inl ⟨rfl, l1, e1, hn⟩
    · refine .inr ⟨s1, pre, z, by rw [runX, e], e1, hp, hz, hx.trans ?_⟩
      rw [runX]
      cases hh : runY [] x s (nextOf x ways) with
      | inl s' => exact runX_ext [] l s'
      | inr p => exact Ext.refl _
theorem runR_rel (there : List ByteArray) : ∀ (n : Nat) (s : WS) (round : List ByteArray), RelS there s (.inr (runR ways there n s round)) (.inr (runR ways [] n s round))
  | 0, s, _ => .inl ⟨rfl, [], by simp [fin_, runR], by simp⟩
  | n + 1, s, round => by
    rcases runX_rel (ways := ways) there round { s with more := [] } with ⟨e, l1, e1, hn⟩ | ⟨s1, pre, z, e, e1, hp, hz, hx⟩
    · unfold runR
      rw [e]
      cases hh : runX ways [] { s with more := [] } round with
      | inl s' => rw [hh] at e1; exact RelS.comb e1 hn (runR_rel there n s' s'.more)
      | inr p => rw [hh] at e1; exact .inl ⟨rfl, l1, e1, hn⟩
    · refine .inr ⟨s1, pre, z, by rw [runR, e], e1, hp, hz, hx.trans ?_⟩
      rw [runR]
      cases hh : runX ways [] { s with more := [] } round with
      | inl s' => exact runR_ext [] n s' s'.more
      | inr p => exact Ext.refl _

/-- All that can be reached. -/
def reachOf (ways : List (ByteArray × ByteArray)) (name : ByteArray) : List ByteArray := (walkOf ways name []).1.all

theorem walk_rel (there : List ByteArray) : (walkOf ways name there = walkOf ways name [] ∧ ∀ y, y ∈ reachOf ways name → y ∉ there) ∨
    ∃ pre y post, reachOf ways name = pre ++ y :: post ∧ (∀ z, z ∈ pre → z ∉ there) ∧ y ∈ there ∧ (walkOf ways name there).2 = y ∧ (walkOf ways name there).1.all = pre ++ [y] ∧ (walkOf ways name there).1.makes <+: (walkOf ways name []).1.makes := by
  rcases runR_rel (ways := ways) there 7 ⟨[(name, name)], [], []⟩ [name] with ⟨e, l, e1, hn⟩ | ⟨s1, pre, y, e, e1, hp, hy, hx⟩
  · refine .inl ⟨Sum.inr.inj e, fun y hy => hn y ?_⟩
    have : (walkOf ways name []).1.all = [] ++ l := e1
    unfold reachOf at hy
    rw [this] at hy; simpa using hy
  · obtain ⟨post, hpost⟩ := hx.1
    have e' : walkOf ways name there = (s1, y) := Sum.inr.inj e
    refine .inr ⟨pre, y, post, ?_, hp, hy, by rw [e'], by rw [e']; simpa using e1, by rw [e']; exact hx.2⟩
    show (walkOf ways name []).1.all = _
    have : s1.all ++ post = (walkOf ways name []).1.all := hpost
    rw [← this, e1]; simp

/-- There is a chain just where something that can be reached is there. -/
theorem hit_iff (there : List ByteArray) : hit ways name there = true ↔ ∃ y, y ∈ reachOf ways name ∧ y ∈ there := by
  unfold hit
  rcases walk_rel (ways := ways) (name := name) there with ⟨e, hn⟩ | ⟨pre, y, post, e, hp, hy, e1, e2, _⟩
  · rw [e]
    constructor
    · intro h
      split at h
      · cases h
      · rename_i x hx
        rw [Bool.and_eq_true, strEq, decide_eq_true_eq] at h
        have hx' : x ∈ (walkOf ways name []).1.all := List.mem_of_getLast? hx
        exact ⟨_, by rw [← h.1]; exact hx', (mem_iff _ _).1 h.2⟩
    · rintro ⟨y, h1, h2⟩
      exact absurd h2 (hn y h1)
  · constructor
    · intro _; exact ⟨y, by rw [e]; simp, hy⟩
    · intro _
      rw [e2, e1]
      simp only [List.getLast?_append, List.getLast?_singleton, Option.some_or]
      rw [strEq, (mem_iff there y).2 hy]; simp

/-- y is n ways off the name. -/
inductive Path (m : List (ByteArray × ByteArray)) (name : ByteArray) : ByteArray → Nat → Prop
  | base : Path m name name 0
  | step {y x : ByteArray} {n : Nat} : y ≠ name → mget m y = some x → Path m name x n → Path m name y (n + 1)

theorem mget_prefix {m m' : List (ByteArray × ByteArray)} (h : m <+: m') {y x : ByteArray} (hg : mget m y = some x) : mget m' y = some x := by
  obtain ⟨t, rfl⟩ := h
  induction m with
  | nil => cases hg
  | cons p m ih =>
    rw [List.cons_append, mget_cons]
    rw [mget_cons] at hg
    by_cases h : y = p.1
    · rw [if_pos h] at hg ⊢; exact hg
    · rw [if_neg h] at hg ⊢; exact ih hg
theorem Path.mono {m m' : List (ByteArray × ByteArray)} (h : m <+: m') {y : ByteArray} {n : Nat} (hp : Path m name y n) : Path m' name y n := by
  induction hp with
  | base => exact .base
  | step h1 h2 _ ih => exact .step h1 (mget_prefix h h2) ih
theorem Path.det {m : List (ByteArray × ByteArray)} {y : ByteArray} {n n' : Nat} (h : Path m name y n) (k : Path m name y n') : n = n' := by
  induction h generalizing n' with
  | base => cases k with
    | base => rfl
    | step h1 _ _ => exact absurd rfl h1
  | step h1 h2 h3 ih => cases k with
    | base => exact absurd rfl h1
    | step k1 k2 k3 =>
      rw [h2] at k2
      cases k2
      rw [ih k3]
theorem Path.up_ {m : List (ByteArray × ByteArray)} {y : ByteArray} {n : Nat} (h : Path m name y n) : ∃ l, up m name (n + 1) y = some l ∧ l.length = n ∧ (∀ i, i ≤ n → ∃ z, (y :: l)[i]? = some z ∧ Path m name z (n - i)) ∧
    ∀ i, i < n → ∃ z x, (y :: l)[i]? = some z ∧ (y :: l)[i + 1]? = some x ∧ mget m z = some x ∧ z ≠ name := by
  induction h with
  | base => exact ⟨[], by unfold up; simp, rfl, fun i hi => ⟨name, by simp [show i = 0 from by omega], by simp; exact .base⟩, fun i hi => by omega⟩
  | @step y x n h1 h2 h3 ih =>
    obtain ⟨l, e1, e2, e3, e4⟩ := ih
    have hv : mval m y = x := by unfold mval; rw [h2]; rfl
    refine ⟨x :: l, by rw [up, if_neg h1, hv, e1]; rfl, by simp [e2], fun i hi => ?_, fun i hi => ?_⟩
    · cases i with
      | zero => exact ⟨y, rfl, .step h1 h2 h3⟩
      | succ i =>
        obtain ⟨z, k1, k2⟩ := e3 i (by omega)
        exact ⟨z, k1, by rw [show n + 1 - (i + 1) = n - i from by omega]; exact k2⟩
    · cases i with
      | zero => exact ⟨y, x, rfl, rfl, h2, h1⟩
      | succ i =>
        obtain ⟨z, x', k1, k2, k3⟩ := e4 i (by omega)
        exact ⟨z, x', k1, k2, k3⟩

structure Jn (ways : List (ByteArray × ByteArray)) (name : ByteArray) (s : WS) (R : Nat) : Prop where
  keys : s.makes.map (·.1) = name :: s.all
  nd : (name :: s.all).Nodup
  nxt : ∀ y x, mget s.makes y = some x → y ≠ name → y ∈ nextOf x ways
  dep : ∃ al : List (ByteArray × Nat), al.map (·.1) = s.all ∧ (al.map (·.2)).Pairwise (· ≤ ·) ∧ ∀ p, p ∈ al → p.2 ≤ R ∧ Path s.makes name p.1 p.2
  more : ∀ y, y ∈ s.more → Path s.makes name y R

theorem mhas_keys {κ ν : Type} [DecidableEq κ] (m : List (κ × ν)) (k : κ) : mhas m k = true ↔ k ∈ m.map (·.1) := by
  unfold mhas
  induction m with
  | nil => simp [mget_nil]
  | cons p m ih =>
    rw [mget_cons]
    by_cases h : k = p.1
    · simp [h]
    · rw [if_neg h, ih]; simp [h]

theorem Jn.add {s : WS} {r : Nat} {x y : ByteArray} (h : Jn ways name s (r + 1)) (hx : Path s.makes name x r) (hy : y ∈ nextOf x ways) (hn : mhas s.makes y = false) :
    Jn ways name ⟨mput s.makes y x, s.more ++ [y], s.all ++ [y]⟩ (r + 1) := by
  have hnk : y ∉ name :: s.all := by
    rw [← h.keys]
    intro hm
    have := (mhas_keys s.makes y).2 hm
    rw [hn] at this; cases this
  have hpre : s.makes <+: mput s.makes y x := prefix_put hn
  have hyp : Path (mput s.makes y x) name y (r + 1) := .step (fun e => hnk (by simp [e])) (by rw [mget_put, if_pos rfl]) (hx.mono hpre)
  obtain ⟨al, e1, e2, e3⟩ := h.dep
  refine ⟨?_, ?_, fun z u hz hne => ?_, ⟨al ++ [(y, r + 1)], by simp [e1], ?_, fun p hp => ?_⟩, fun z hz => ?_⟩
  · show (mput s.makes y x).map (·.1) = _
    rw [mput_new (mget_none hn), List.map_append, h.keys]; simp
  · show (name :: (s.all ++ [y])).Nodup
    rw [← List.cons_append, List.nodup_append]
    refine ⟨h.nd, by simp, fun a ha b hb => ?_⟩
    simp at hb; subst hb
    exact fun e => hnk (e ▸ ha)
  · have hz' : mget (mput s.makes y x) z = some u := hz
    rw [mget_put] at hz'
    split at hz'
    · rename_i e; cases hz'; rw [e]; exact hy
    · exact h.nxt z u hz' hne
  · rw [List.map_append, List.pairwise_append]
    refine ⟨e2, by simp, fun a ha b hb => ?_⟩
    simp at hb; subst hb
    obtain ⟨p, hp, rfl⟩ := List.mem_map.1 ha
    exact (e3 p hp).1
  · rcases List.mem_append.1 hp with hp | hp
    · exact ⟨(e3 p hp).1, (e3 p hp).2.mono hpre⟩
    · simp at hp; subst hp; exact ⟨Nat.le_refl _, hyp⟩
  · rcases List.mem_append.1 hz with hz | hz
    · exact (h.more z hz).mono hpre
    · simp at hz; subst hz; exact hyp

theorem stepY_jn (there : List ByteArray) {s : WS} {r : Nat} {x y : ByteArray} (h : Jn ways name s (r + 1)) (hx : Path s.makes name x r) (hy : y ∈ nextOf x ways) : Jn ways name (fin_ (stepY there x s y)).1 (r + 1) := by
  unfold stepY
  cases hh : mhas s.makes y
  · simp only [Bool.false_eq_true, if_false]
    split
    · exact h
    · split
      · exact h.add hx hy hh
      · exact h.add hx hy hh
  · simp only [if_true]; exact h
theorem runY_jn (there : List ByteArray) {r : Nat} {x : ByteArray} : ∀ (l : List ByteArray) (s : WS), Jn ways name s (r + 1) → Path s.makes name x r → (∀ y, y ∈ l → y ∈ nextOf x ways) → Jn ways name (fin_ (runY there x s l)).1 (r + 1)
  | [], s, h, _, _ => h
  | y :: l, s, h, hx, hl => by
    have h1 := stepY_jn there h hx (hl y (by simp))
    have h2 := stepY_ext there x s y
    unfold runY
    cases hh : stepY there x s y with
    | inl s' => rw [hh] at h1 h2; exact runY_jn there l s' h1 (hx.mono h2.2) (fun z hz => hl z (by simp [hz]))
    | inr e => rw [hh] at h1; exact h1
theorem runX_jn (there : List ByteArray) {r : Nat} : ∀ (l : List ByteArray) (s : WS), Jn ways name s (r + 1) → (∀ x, x ∈ l → Path s.makes name x r) → Jn ways name (fin_ (runX ways there s l)).1 (r + 1)
  | [], s, h, _ => h
  | x :: l, s, h, hl => by
    have h1 := runY_jn there (nextOf x ways) s h (hl x (by simp)) (fun _ h => h)
    have h2 := runY_ext there x (nextOf x ways) s
    unfold runX
    cases hh : runY there x s (nextOf x ways) with
    | inl s' => rw [hh] at h1 h2; exact runX_jn there l s' h1 (fun z hz => (hl z (by simp [hz])).mono h2.2)
    | inr e => rw [hh] at h1; exact h1
theorem Jn.weaken {s : WS} {R R' : Nat} (h : Jn ways name s R) (hR : R ≤ R') (m : List ByteArray) (hm : ∀ y, y ∈ m → Path s.makes name y R') : Jn ways name { s with more := m } R' := by
  obtain ⟨al, e1, e2, e3⟩ := h.dep
  exact ⟨h.keys, h.nd, h.nxt, ⟨al, e1, e2, fun p hp => ⟨Nat.le_trans (e3 p hp).1 hR, (e3 p hp).2⟩⟩, hm⟩
theorem runR_jn (there : List ByteArray) : ∀ (n r : Nat) (s : WS) (round : List ByteArray), Jn ways name s r → (∀ x, x ∈ round → Path s.makes name x r) → ∃ R, R ≤ r + n ∧ Jn ways name (runR ways there n s round).1 R
  | 0, r, s, _, h, _ => ⟨r, Nat.le_refl _, h⟩
  | n + 1, r, s, round, h, hl => by
    have h1 := runX_jn there round { s with more := [] } (h.weaken (Nat.le_succ r) [] (by simp)) hl
    unfold runR
    cases hh : runX ways there { s with more := [] } round with
    | inl s' =>
      rw [hh] at h1
      obtain ⟨R, hR, hJ⟩ := runR_jn there n (r + 1) s' s'.more h1 h1.more
      exact ⟨R, by omega, hJ⟩
    | inr e => rw [hh] at h1; exact ⟨r + 1, by omega, h1⟩
theorem walk_jn (there : List ByteArray) : ∃ R, R ≤ 7 ∧ Jn ways name (walkOf ways name there).1 R := by
  obtain ⟨R, hR, h⟩ := runR_jn (ways := ways) (name := name) there 7 0 ⟨[(name, name)], [], []⟩ [name] ⟨rfl, by simp, fun y x hy hne => (by
      rw [mget_cons, if_neg hne] at hy
      cases hy), ⟨[], rfl, by simp, by simp⟩, by simp⟩ (fun x hx => by simp at hx; subst hx; exact .base)
  exact ⟨R, by omega, h⟩
theorem Path.zero {m : List (ByteArray × ByteArray)} {y : ByteArray} (h : Path m name y 0) : y = name := by cases h; rfl

/-- A chain, if there is one. -/
theorem chain_facts {there : List ByteArray} (hh : hit ways name there = true) : ∃ n l, 1 ≤ n ∧ n ≤ 7 ∧ up (walkOf ways name there).1.makes name (n + 1) (walkOf ways name there).2 = some l ∧ l.length = n ∧
    Path (walkOf ways name []).1.makes name (walkOf ways name there).2 n ∧ (walkOf ways name there).2 ∈ there ∧
    ((walkOf ways name there).2 :: l)[n]? = some name ∧
    ∀ i, i < n → ∃ z x, ((walkOf ways name there).2 :: l)[i]? = some z ∧ ((walkOf ways name there).2 :: l)[i + 1]? = some x ∧ z ∈ nextOf x ways ∧ (0 < i → z ∉ there) := by
  obtain ⟨y0, hr0, ht0⟩ := (hit_iff there).1 hh
  rcases walk_rel (ways := ways) (name := name) there with ⟨_, hn⟩ | ⟨pre, y, post, e, hp, hy, e1, e2, e3⟩
  · exact absurd ht0 (hn y0 hr0)
  obtain ⟨R, hR, hJ⟩ := walk_jn (ways := ways) (name := name) there
  rw [e1]
  have hyall : y ∈ (walkOf ways name there).1.all := by rw [e2]; simp
  have hyne : y ≠ name := by
    intro e
    have := (List.nodup_cons.1 hJ.nd).1
    exact this (e ▸ hyall)
  obtain ⟨al, a1, a2, a3⟩ := hJ.dep
  rw [← a1] at hyall
  obtain ⟨p, hp', rfl⟩ := List.mem_map.1 hyall
  obtain ⟨hle, hpath⟩ := a3 p hp'
  obtain ⟨l, u1, u2, u3, u4⟩ := hpath.up_
  refine ⟨p.2, l, ?_, by omega, u1, u2, hpath.mono e3, hy, ?_, fun i hi => ?_⟩
  · rcases Nat.eq_zero_or_pos p.2 with h0 | h0
    · rw [h0] at hpath; exact absurd hpath.zero hyne
    · exact h0
  · obtain ⟨z, k1, k2⟩ := u3 p.2 (Nat.le_refl _)
    rw [Nat.sub_self] at k2
    rw [k1, k2.zero]
  · obtain ⟨z, x, k1, k2, k3, k4⟩ := u4 i hi
    refine ⟨z, x, k1, k2, hJ.nxt z x k3 k4, fun h0 => ?_⟩
    obtain ⟨z', j1, j2⟩ := u3 i (by omega)
    rw [k1] at j1; cases j1
    have hz : z ∈ (walkOf ways name there).1.all := by
      have : z ∈ name :: (walkOf ways name there).1.all := by
        rw [← hJ.keys, ← mhas_keys]
        unfold mhas; rw [k3]; rfl
      rcases List.mem_cons.1 this with h | h
      · exact absurd h k4
      · exact h
    rw [e2] at hz
    rcases List.mem_append.1 hz with h | h
    · exact hp z h
    · simp at h
      rw [h] at j2
      have := hpath.det j2
      omega

theorem stepY_len (there : List ByteArray) (x : ByteArray) (s : WS) (y : ByteArray) (h : s.makes.length ≤ 512) : (fin_ (stepY there x s y)).1.makes.length ≤ 512 := by
  unfold stepY
  cases hh : mhas s.makes y
  · simp only [Bool.false_eq_true, if_false]
    split
    · exact h
    · have : (mput s.makes y x).length ≤ 512 := by rw [mput_length, hh]; simp; omega
      split
      · exact this
      · exact this
  · simp only [if_true]; exact h
theorem runY_len (there : List ByteArray) (x : ByteArray) : ∀ (l : List ByteArray) (s : WS), s.makes.length ≤ 512 → (fin_ (runY there x s l)).1.makes.length ≤ 512
  | [], s, h => h
  | y :: l, s, h => by
    have h1 := stepY_len there x s y h
    unfold runY
    cases hh : stepY there x s y with
    | inl s' => rw [hh] at h1; exact runY_len there x l s' h1
    | inr e => rw [hh] at h1; exact h1
theorem runX_len (there : List ByteArray) : ∀ (l : List ByteArray) (s : WS), s.makes.length ≤ 512 → (fin_ (runX ways there s l)).1.makes.length ≤ 512
  | [], s, h => h
  | x :: l, s, h => by
    have h1 := runY_len there x (nextOf x ways) s h
    unfold runX
    cases hh : runY there x s (nextOf x ways) with
    | inl s' => rw [hh] at h1; exact runX_len there l s' h1
    | inr e => rw [hh] at h1; exact h1
theorem runR_len (there : List ByteArray) : ∀ (n : Nat) (s : WS) (round : List ByteArray), s.makes.length ≤ 512 → (runR ways there n s round).1.makes.length ≤ 512
  | 0, s, _, h => h
  | n + 1, s, round, h => by
    have h1 := runX_len (ways := ways) there round { s with more := [] } h
    unfold runR
    cases hh : runX ways there { s with more := [] } round with
    | inl s' => rw [hh] at h1; exact runR_len there n s' s'.more h1
    | inr e => rw [hh] at h1; exact h1
theorem reach_facts : (name :: reachOf ways name).Nodup ∧ (reachOf ways name).length < 512 := by
  obtain ⟨R, _, hJ⟩ := walk_jn (ways := ways) (name := name) []
  refine ⟨hJ.nd, ?_⟩
  have h1 : (walkOf ways name []).1.makes.length ≤ 512 := runR_len [] 7 ⟨[(name, name)], [], []⟩ [name] (by simp)
  have h2 := congrArg List.length hJ.keys
  simp at h2
  unfold reachOf
  omega

/-- More that is there makes no chain longer. -/
theorem chain_more {t1 t2 : List ByteArray} (hsub : ∀ y, y ∈ t1 → y ∈ t2) {n1 n2 : Nat} (h1 : hit ways name t1 = true)
    (p1 : Path (walkOf ways name []).1.makes name (walkOf ways name t1).2 n1) (p2 : Path (walkOf ways name []).1.makes name (walkOf ways name t2).2 n2) : hit ways name t2 = true ∧ n2 ≤ n1 := by
  obtain ⟨y0, hr0, ht0⟩ := (hit_iff t1).1 h1
  have h2 : hit ways name t2 = true := (hit_iff t2).2 ⟨y0, hr0, hsub y0 ht0⟩
  refine ⟨h2, ?_⟩
  rcases walk_rel (ways := ways) (name := name) t1 with ⟨_, hn⟩ | ⟨pre1, y1, post1, e1, hp1, hy1, f1, _, _⟩
  · exact absurd ht0 (hn y0 hr0)
  rcases walk_rel (ways := ways) (name := name) t2 with ⟨_, hn⟩ | ⟨pre2, y2, post2, e2, hp2, hy2, f2, _, _⟩
  · exact absurd (hsub y0 ht0) (hn y0 hr0)
  rw [f1] at p1
  rw [f2] at p2
  obtain ⟨R, _, hJ⟩ := walk_jn (ways := ways) (name := name) []
  obtain ⟨al, a1, a2, a3⟩ := hJ.dep
  have hL : (walkOf ways name []).1.all = pre2 ++ y2 :: post2 := e2
  rw [hL] at a1
  obtain ⟨al1, al2, rfl, b1, b2⟩ := List.map_eq_append_iff.1 a1
  obtain ⟨q2, al3, rfl, c1, c2⟩ := List.map_eq_cons_iff.1 b2
  have hm : y1 ∈ pre2 ++ y2 :: post2 := by rw [← e2, e1]; simp
  rcases List.mem_append.1 hm with hm | hm
  · exact absurd (hsub y1 hy1) (hp2 y1 hm)
  · rcases List.mem_cons.1 hm with hm | hm
    · rw [hm] at p1; rw [p1.det p2]; exact Nat.le_refl _
    · rw [← c2] at hm
      obtain ⟨q1, hq1, e⟩ := List.mem_map.1 hm
      have d1 := (a3 q1 (by simp [hq1])).2
      have d2 := (a3 q2 (by simp)).2
      rw [e] at d1
      rw [c1] at d2
      rw [p1.det d1, p2.det d2]
      rw [List.map_append, List.pairwise_append] at a2
      have := a2.2.1
      rw [List.map_cons, List.pairwise_cons] at this
      exact this.1 q1.2 (List.mem_map.2 ⟨q1, hq1, rfl⟩)
theorem chain_none {t1 t2 : List ByteArray} (hsub : ∀ y, y ∈ t1 → y ∈ t2) (h2 : hit ways name t2 = false) : hit ways name t1 = false := by
  cases h : hit ways name t1
  · rfl
  · obtain ⟨y0, hr0, ht0⟩ := (hit_iff t1).1 h
    rw [(hit_iff t2).2 ⟨y0, hr0, hsub y0 ht0⟩] at h2; cases h2
end

/-- Ways go between suffixes. -/
theorem wayRun_in (met : List (ByteArray × Unit)) : ∀ (m : List ((ByteArray × ByteArray) × Unit)) (l : List (ByteArray × ByteArray)), wayRun met m l = true → ∀ p, p ∈ l → mhas met p.1 = true
  | _, [], _, p, hp => by cases hp
  | m, q :: l, h, p, hp => by
    unfold wayRun at h
    split at h
    · cases h
    · rename_i hc
      rcases List.mem_cons.1 hp with rfl | hp
      · simp at hc; exact hc.1.1.2
      · exact wayRun_in met _ l h p hp
theorem sufRun_in : ∀ (l : List ByteArray) (m met : List (ByteArray × Unit)), sufRun m l = some met → ∀ x, mhas met x = true → mhas m x = true ∨ x ∈ l
  | [], m, met, h, x, hx => by cases h; exact .inl hx
  | s :: l, m, met, h, x, hx => by
    unfold sufRun at h
    split at h
    · cases h
    · rcases sufRun_in l _ met h x hx with h' | h'
      · unfold mhas at h'
        rw [mget_put] at h'
        by_cases e : x = s
        · exact .inr (by simp [e])
        · rw [if_neg e] at h'; exact .inl h'
      · exact .inr (by simp [h'])
theorem right_in {s : List ByteArray} {ways : List (ByteArray × ByteArray)} (h : rightOf s ways = true) : (∀ p, p ∈ ways → p.1 ∈ s) ∧ ways.length ≤ 256 := by
  unfold rightOf at h
  split at h
  · cases h
  · split at h
    · cases h
    · rename_i h2
      refine ⟨fun p hp => ?_, by omega⟩
      cases hs : sufRun [] s with
      | none => rw [hs] at h; cases h
      | some met =>
        rw [hs] at h
        rcases sufRun_in s [] met hs p.1 (wayRun_in met [] ways h p hp) with h' | h'
        · cases h'
        · exact h'
end Go.Proofs.Ytliglejbkpjamaa
end
section
namespace Go.Proofs.Ytliglejbkpjamaa
open Go.RowKit
end Go.Proofs.Ytliglejbkpjamaa
end
