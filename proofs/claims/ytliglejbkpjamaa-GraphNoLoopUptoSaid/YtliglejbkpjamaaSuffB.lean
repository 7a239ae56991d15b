/-
  The walks of layer 15 (suff): which tables may be.
-/
import Derived.Test.YtliglejbkpjamaaSuffA
set_option linter.unusedVariables false
set_option linter.unusedSimpArgs false
namespace Go.Proofs.Ytliglejbkpjamaa
open Go.RowKit

theorem keyS : KeyOk Try.prog 9 Value.string := keyStr Try.underlying9
theorem keyP : KeyOk Try.prog 93 pairV := keyPair (st := 9) Try.underlying93 Try.underlying9 (by kernel_rfl)
theorem zeroB : ∀ w, (zeroValue 4).run Try.prog w = .ok (.bool false) w := fun w => by kernel_rfl
theorem zeroS : ∀ w, (zeroValue 9).run Try.prog w = .ok (.string ⟨#[]⟩) w := fun w => by kernel_rfl

def sufRun : List (ByteArray × Unit) → List ByteArray → Option (List (ByteArray × Unit))
  | m, [] => some m
  | m, s :: r => if s.toList.isEmpty || mhas m s then none else sufRun (mput m s ()) r
def wayRun (met : List (ByteArray × Unit)) : List ((ByteArray × ByteArray) × Unit) → List (ByteArray × ByteArray) → Bool
  | _, [] => true
  | m, p :: r => if (p.1.toList == p.2.toList) || !mhas met p.1 || !mhas met p.2 || mhas m p then false else wayRun met (mput m p ()) r
def rightOf (s : List ByteArray) (w : List (ByteArray × ByteArray)) : Bool :=
  if 64 < s.length then false else if 256 < w.length then false else match sufRun [] s with | none => false | some met => wayRun met [] w

theorem Mem.box {fp : Nat → Prop} {w0 w : World} {F : List Chunk} (h : Mem fp w0 F w) (cs : Array Value) (t : Nat) : Mem fp w0 (Blk w.heap.size t cs :: F) (w.alloc (.cells cs t)) :=
  h.new ((Mut.refl _ _).alloc _) (heap_alloc_new w _) (fun b hb => Nat.le_of_eq hb.symm)
theorem Blk.cell {b t : Nat} {cs : Array Value} {w : World} (h : (Blk b t cs).ok w) (j : Nat) : w.cell? ⟨b, j, none⟩ = cs[j]? := by
  have h' : w.heap[b]? = some (.cells cs t (0, 0)) := h
  unfold World.cell?
  rw [h']
  rfl

set_option maxHeartbeats 1000000 in
theorem right_calls (SV WV : Value) (s : List ByteArray) (ways : List (ByteArray × ByteArray)) (w : World) (hS : Strs w SV s) (hW : Prs w WV ways) :
    Calls Try.prog 107 #[.agg #[SV, WV]] w fun e w' => e = .returned (.bool (rightOf s ways)) ∧ Mem none_ w [] w' := by
  obtain ⟨A, c, rfl, h1, h2, h3, h4⟩ := hS
  obtain ⟨A', c', rfl, h1', h2', h3', h4'⟩ := hW
  unfold maxLen at h2 h2'
  have hmm := @run_makeMap Try.prog
  by_cases hb1 : 64 < s.length
  · go_enter Try.func107, Try.ntmps107
    go_wp2
    go_ret
    exact ⟨ret_bool (by simp [rightOf, hb1]), (Mem.start _).alloc _⟩
  by_cases hb2 : 256 < ways.length
  · go_enter Try.func107, Try.ntmps107
    go_wp2
    go_ret
    exact ⟨ret_bool (by simp [rightOf, hb1, hb2]), (Mem.start _).alloc _⟩
  have HR : Hid (rightOf s ways = match sufRun [] s with | none => false | some met => wayRun met [] ways) := by
    unfold Hid rightOf
    rw [if_neg hb1, if_neg hb2]
  have HM0 := ((Mem.start (fp := none_) w).box #[.slice A s.length c, .slice A' ways.length c'] 59)
  have HM1 := MapC.made HM0 Value.string setV
  rw [World.size_alloc] at HM1
  go_enter Try.func107, Try.ntmps107
  go_wp2
  clear HM0
  go_loopw [23] (fun i wr => ∃ (k : Nat) (mk : List (ByteArray × Unit)), k ≤ s.length ∧ i = .int .i64 k ∧ Hid (sufRun [] s = sufRun mk (s.drop k)) ∧ Mem none_ w [MapC (w.heap.size + 1) Value.string setV mk, Blk w.heap.size 59 #[.slice A s.length c, .slice A' ways.length c']] wr) (fun i _ => s.length - (intOf i).toNat)
  case atStart => exact ⟨0, [], Nat.zero_le _, rfl, by unfold Hid; rfl, HM1⟩
  case round =>
    obtain ⟨k, mk, hk, rfl, HK, HM⟩ := hrel
    clear HM1
    by_cases hlt : k < s.length
    · obtain ⟨b, o, rfl, hcells⟩ := h4.resolve_left (by omega)
      clear h4
      have hx0 : wr.cell? ⟨b, o + k, none⟩ = some (.string s[k]) := HM.mu.cell (hcells k _ (strs_get hlt)) (fun h => h)
      clear hcells
      have hdrop : s.drop k = s[k] :: s.drop (k + 1) := List.drop_eq_getElem_cons hlt
      have HN : Hid (sufRun mk (s.drop k) = if s[k].toList.isEmpty || mhas mk s[k] then none else sufRun (mput mk s[k] ()) (s.drop (k + 1))) := by
        unfold Hid; rw [hdrop]; rfl
      clear hdrop
      cases he : s[k].toList.isEmpty
      · cases hh : mhas mk s[k]
        · go_wp2_with (first | (at_lookup; refine wpList_get keyS Try.underlying61 zeroB rfl _ _ _ rfl HM.head rfl _ rfl _ ((set_get _ _).trans (by rw [hh])) ?_) | (at_mapUpdate; refine wpList_put keyS Try.underlying61 rfl _ _ _ (.inl rfl) HM rfl _ rfl () rfl ?_; intro w1 HM2 HU2))
          go_roundw
          case rel => exact ⟨k + 1, _, by omega, by go_num, by unfold Hid; rw [HK.out, HN.out, he, hh]; rfl, HM2⟩
          case measure => simp [intOf]; omega
        · have HF : Hid (rightOf s ways = false) := by unfold Hid; rw [HR.out, HK.out, HN.out, he, hh]; rfl
          go_wp2_with (first | (at_lookup; refine wpList_get keyS Try.underlying61 zeroB rfl _ _ _ rfl HM.head rfl _ rfl _ ((set_get _ _).trans (by rw [hh])) ?_))
          go_ret
          exact ⟨ret_bool HF.out.symm, HM.drop (cs := [_, _])⟩
      · have HF : Hid (rightOf s ways = false) := by unfold Hid; rw [HR.out, HK.out, HN.out, he]; rfl
        go_wp2
        go_ret
        exact ⟨ret_bool HF.out.symm, HM.drop (cs := [_, _])⟩
    · have e : k = s.length := by omega
      have HR2 : Hid (rightOf s ways = wayRun mk [] ways) := by unfold Hid; rw [HR.out, HK.out, e, List.drop_length]; rfl
      clear HK e
      have HM3 := MapC.made (κ := ByteArray × ByteArray) HM pairV setV
      have hf1 : (wr.alloc (.map #[] 0)).cell? ⟨w.heap.size, 1, none⟩ = some (.slice A' ways.length c') := Blk.cell HM3.tail.tail.head 1
      go_wp2
      clear hf1
      obtain ⟨wo, rfl⟩ : ∃ wo : World, wo = wr := ⟨_, rfl⟩
      go_loopw [41] (fun i wr' => ∃ (j : Nat) (mj : List ((ByteArray × ByteArray) × Unit)), j ≤ ways.length ∧ i = .int .i64 j ∧ Hid (wayRun mk [] ways = wayRun mk mj (ways.drop j)) ∧ Mem none_ w [MapC wo.heap.size pairV setV mj, MapC (w.heap.size + 1) Value.string setV mk] wr') (fun i _ => ways.length - (intOf i).toNat)
      case atStart => exact ⟨0, [], Nat.zero_le _, rfl, by unfold Hid; rfl, HM3.sel [0, 1] (by decide)⟩
      case round =>
        clear HM3 HM
        obtain ⟨j, mj, hj, rfl, HK, HM⟩ := hrel
        by_cases hlt' : j < ways.length
        · obtain ⟨b, o, rfl, hcells⟩ := h4'.resolve_left (by omega)
          clear h4'
          have hx0 : wr.cell? ⟨b, o + j * 2, none⟩ = some (.string ways[j].1) := HM.mu.cell (hcells _ _ (prs_get0 hlt')) (fun h => h)
          have hx1 : wr.cell? ⟨b, o + j * 2 + 1, none⟩ = some (.string ways[j].2) := HM.mu.cell (hcells _ _ (prs_get1 hlt')) (fun h => h)
          clear hcells
          have hdrop : ways.drop j = ways[j] :: ways.drop (j + 1) := List.drop_eq_getElem_cons hlt'
          have HN : Hid (wayRun mk mj (ways.drop j) = if (ways[j].1.toList == ways[j].2.toList) || !mhas mk ways[j].1 || !mhas mk ways[j].2 || mhas mj ways[j] then false else wayRun mk (mput mj ways[j] ()) (ways.drop (j + 1))) := by
            unfold Hid; rw [hdrop]; rfl
          clear hdrop
          cases he : (ways[j].1.toList == ways[j].2.toList)
          · cases hh1 : mhas mk ways[j].1
            · have HF : Hid (rightOf s ways = false) := by unfold Hid; rw [HR2.out, HK.out, HN.out, he, hh1]; rfl
              go_wp2_with (first | (at_lookup; refine wpList_get keyS Try.underlying61 zeroB rfl _ _ _ rfl (HM.alloc _).tail.head rfl _ rfl _ (set_get _ _) ?_) | (at_lookup; refine wpList_get keyP Try.underlying158 zeroB rfl _ _ _ rfl (HM.alloc _).head rfl ways[j] rfl _ (set_get _ _) ?_))
              go_ret
              exact ⟨ret_bool HF.out.symm, (HM.alloc _).drop (cs := [_, _])⟩
            · cases hh2 : mhas mk ways[j].2
              · have HF : Hid (rightOf s ways = false) := by unfold Hid; rw [HR2.out, HK.out, HN.out, he, hh1, hh2]; rfl
                go_wp2_with (first | (at_lookup; refine wpList_get keyS Try.underlying61 zeroB rfl _ _ _ rfl (HM.alloc _).tail.head rfl _ rfl _ (set_get _ _) ?_) | (at_lookup; refine wpList_get keyP Try.underlying158 zeroB rfl _ _ _ rfl (HM.alloc _).head rfl ways[j] rfl _ (set_get _ _) ?_))
                go_ret
                exact ⟨ret_bool HF.out.symm, (HM.alloc _).drop (cs := [_, _])⟩
              · cases hh3 : mhas mj ways[j]
                · go_wp2_with (first | (at_lookup; refine wpList_get keyS Try.underlying61 zeroB rfl _ _ _ rfl (HM.alloc _).tail.head rfl _ rfl _ (set_get _ _) ?_) | (at_lookup; refine wpList_get keyP Try.underlying158 zeroB rfl _ _ _ rfl (HM.alloc _).head rfl ways[j] rfl _ (set_get _ _) ?_) | (at_mapUpdate; refine wpList_put keyP Try.underlying158 rfl _ _ _ (.inl rfl) (HM.alloc _) rfl ways[j] rfl () rfl ?_; intro w1 HM2 HU2))
                  go_roundw
                  case rel => exact ⟨j + 1, _, by omega, by go_num, by unfold Hid; rw [HK.out, HN.out, he, hh1, hh2, hh3]; rfl, HM2⟩
                  case measure => simp [intOf]; omega
                · have HF : Hid (rightOf s ways = false) := by unfold Hid; rw [HR2.out, HK.out, HN.out, he, hh1, hh2, hh3]; rfl
                  go_wp2_with (first | (at_lookup; refine wpList_get keyS Try.underlying61 zeroB rfl _ _ _ rfl (HM.alloc _).tail.head rfl _ rfl _ (set_get _ _) ?_) | (at_lookup; refine wpList_get keyP Try.underlying158 zeroB rfl _ _ _ rfl (HM.alloc _).head rfl ways[j] rfl _ (set_get _ _) ?_))
                  go_ret
                  exact ⟨ret_bool HF.out.symm, (HM.alloc _).drop (cs := [_, _])⟩
          · have HF : Hid (rightOf s ways = false) := by unfold Hid; rw [HR2.out, HK.out, HN.out, he]; rfl
            go_wp2
            go_ret
            exact ⟨ret_bool HF.out.symm, (HM.alloc _).drop (cs := [_, _])⟩
        · have e : j = ways.length := by omega
          have HF : Hid (rightOf s ways = true) := by unfold Hid; rw [HR2.out, HK.out, e, List.drop_length]; rfl
          go_wp2
          go_ret
          exact ⟨ret_bool HF.out.symm, HM.drop (cs := [_, _])⟩
end Go.Proofs.Ytliglejbkpjamaa
