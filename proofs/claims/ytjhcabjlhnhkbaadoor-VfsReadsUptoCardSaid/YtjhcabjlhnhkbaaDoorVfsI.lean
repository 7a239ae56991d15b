/-
  The store's calls: All, List (in whatever order the map is gone through), sorted.
-/
import Derived.Test.YtjhcabjlhnhkbaaDoorVfsH
import Derived.Test.YtjhcabjlhnhkbaaDoorPthI
import Derived.Sort.OwnSorted
import Derived.Deep.LoopGhost
set_option linter.unusedVariables false
set_option linter.unusedSimpArgs false
set_option maxRecDepth 20000
namespace Go.Proofs.YtjhcabjlhnhkbaaDoor
open Go.RowKit
open Go.Sort Go.Proofs

theorem str_eq (a b : List UInt8) : ((ofL a).toList == (ofL b).toList) = decide (a = b) := by
  rw [ByteArray.toList_eq, ByteArray.toList_eq]
  show (a == b) = _
  rw [Bool.eq_iff_iff]; simp
theorem tl_of (a : List UInt8) : (ofL a).toList = a := by rw [ByteArray.toList_eq]; rfl
theorem enc_strs (l : List (List UInt8)) : strs (l.map ofL) = l.map encStr := by simp [strs, ofL]
theorem sortT_len (l : List (List UInt8)) : (sortT l).length = l.length := (List.mergeSort_perm l _).length_eq
theorem sortT_perm {l m : List (List UInt8)} (h : l.Perm m) : sortT l = sortT m := by
  have tr : ∀ a b c : List UInt8, decide (a ≤ b) = true → decide (b ≤ c) = true → decide (a ≤ c) = true := fun a b c h1 h2 => decide_eq_true (List.le_trans (of_decide_eq_true h1) (of_decide_eq_true h2))
  have to : ∀ a b : List UInt8, (decide (a ≤ b) || decide (b ≤ a)) = true := fun a b => by
    rcases List.le_total a b with h | h
    · rw [decide_eq_true h]; rfl
    · rw [decide_eq_true h, Bool.or_true]
  refine List.Perm.eq_of_pairwise (le := fun a b => decide (a ≤ b) = true) (fun a b _ _ h1 h2 => List.le_antisymm (of_decide_eq_true h1) (of_decide_eq_true h2)) (List.pairwise_mergeSort tr to l) (List.pairwise_mergeSort tr to m) ?_
  exact (List.mergeSort_perm l _).trans (h.trans (List.mergeSort_perm m _).symm)
theorem sort_calls {fp : Nat → Prop} {w0 w : World} {F : List Chunk} {v : Value} {l : List (List UInt8)} (HM : Mem fp w0 (TRow v l :: F) w) (hl : l.length ≤ 1000000) :
    Calls Tryd.prog 33 #[v] w fun e w' => e = .returned (.tuple #[]) ∧ Mem fp w0 (TRow v (sortT l) :: F) w' := by
  have hown : w.ownsRow 0 9 1 v l.length (strs (l.map ofL)) := HM.head
  have hnil : ∀ (hn : l = []), Mem fp w0 (TRow v (sortT l) :: F) w := fun hn => by
    subst hn
    have e : sortT [] = [] := by simp [sortT]
    rw [e]; exact HM
  rcases hown.2 with ⟨rfl, h0⟩ | ⟨g, cap, cur, rfl, hb, hg, h1, h2, h3, h4⟩
  · refine (Tryd.slices_Sort_string_none none 0 w).mono ?_
    rintro e w' ⟨rfl, rfl⟩
    exact ⟨rfl, hnil (List.length_eq_zero_iff.1 h0)⟩
  · by_cases h0 : l.length = 0
    · rw [h0]
      refine (Tryd.slices_Sort_string_none (some ⟨g, 0, none⟩) cap w).mono ?_
      rintro e w' ⟨rfl, rfl⟩
      have := hnil (List.length_eq_zero_iff.1 h0)
      rw [h0] at this
      exact ⟨rfl, this⟩
    · rw [enc_strs, Nat.mul_one] at h4
      refine (Tryd.slices_Sort_string g 0 cap l w (holds_of_block hg h4) (Array.getElem?_eq_some_iff.1 hg).1 (by omega)).mono ?_
      rintro e w' ⟨rfl, n, os, rfl⟩
      refine ⟨rfl, HM.turn (Mut.mono (Mut.of_grown (grownBy_sorted _)) (fun k _ hk => hk)) ?_ (fun b hb => .inl hb)⟩
      have := ownsRow_sorted (w := w) (base := 0) (g := g) (cap := cap) (n := n) (e := 9) (os := os) (ss := l) (ts := sortT l) (sortT_len l) (Nat.zero_le _) hg h1 h2 h3
      show World.ownsRow _ 0 9 1 _ (sortT l).length (strs ((sortT l).map ofL))
      rw [enc_strs, sortT_len]
      exact this
theorem strE1 : Elem Tryd.prog 37 9 1 16 := strE
section
variable {α β : Type}
theorem perm_step {d l l' m : List α} {x : α} (h : (d ++ l).Perm m) (hl : l.Perm (x :: l')) : ((d ++ [x]) ++ l').Perm m := by
  rw [List.append_assoc]
  exact (List.Perm.append_left d hl.symm).trans h
theorem perm_start (m : List α) {l : List α} (h : l = m) : (([] : List α) ++ l).Perm m := by subst h; exact List.Perm.refl _
theorem perm_done {d l m : List α} (h : (d ++ l).Perm m) (hl : l = []) : d.Perm m := by subst hl; simpa using h
end
theorem acc_len {α β : Type} {f : α → Option β} {d l m : List α} {acc : List β} (hp : (d ++ l).Perm m) (ha : acc = d.filterMap f) : acc.length ≤ m.length := by
  have h1 := hp.length_eq
  rw [List.length_append] at h1
  have h2 := List.length_filterMap_le f d
  rw [ha]
  omega
theorem acc_step {α β : Type} {f : α → Option β} {d : List α} {acc : List β} {x : α} (ha : acc = d.filterMap f) : (match f x with | none => acc | some y => acc ++ [y]) = (d ++ [x]).filterMap f := by
  rw [List.filterMap_append, ← ha]
  cases h : f x <;> simp [List.filterMap_cons, h]
section
variable {sb mb : Nat} {nv : Value} {s : St} {w : World}
set_option maxHeartbeats 8000000 in
theorem all_calls (h : (StoreC sb mb nv s).ok w) (hG : GoodS s) :
    Calls Tryd.prog 14 #[ptr sb] w fun e w' => ∃ v, e = .returned v ∧ Mem none_ w [TRow v (allS s)] w' := by
  have hO := ok_calls h
  have c3 := StoreC.c3 h
  obtain ⟨es, clk, hz⟩ := MapC.z (StoreC.map_ h)
  have hlen := hG.len
  have HM0 := Mem.nilT (Mem.start (fp := none_) w)
  clear h hG
  go_enter Tryd.func14, Tryd.ntmps14
  go_wp2_with fail
  refine hO.mono ?_
  rintro e w1 ⟨rfl, rfl⟩
  clear hO
  go_wp2_with (at_range; refine wpList_rangeM rfl _ _ rfl Tryd.underlying51 rfl HM0 hz ?_; intro w1 HM1 hp1)
  go_frame
  have HZ := Lib.hid hz
  have hs0 := leftZ_start es s.files hz.len
  clear hz HM0 c3
  generalize w.heap.size = r at *
  go_loopg [3, 4, 5] s.files.length (fun g v3 v4 v5 wr => ∃ (acc : List (List UInt8)) (done : List (List UInt8 × VF)) (seen : Array Nat), (leftZ es s.files seen).length ≤ g ∧ Hid ((done ++ leftZ es s.files seen).Perm s.files) ∧ Hid (acc = done.filterMap plainF) ∧ Mem none_ w [IterC r mb clk seen, TRow v3 acc] wr)
  case atStart => exact ⟨[], [], #[], by rw [hs0]; exact Nat.le_refl _, perm_start _ hs0, rfl, HM1⟩
  case round =>
    clear HM1 hp1 hs0
    obtain ⟨acc, done, seen, hg, HP, HA, HM⟩ := hrel
    have hz := HZ.out.pure HM.mu
    go_wp2_with (at_next; refine wpList_nextM rfl _ rfl HM hz rfl ?_ ?_)
    · intro h0
      have hd := perm_done HP.out h0
      have hal := acc_len HP.out HA.out
      have hS := sort_calls (HM.sel [1] (by decide)) (by omega)
      have HE := Lib.hid (sortT_perm (hd.filterMap plainF))
      rw [← HA.out] at HE
      clear hz HM HP HA hd
      go_wp2_with fail
      refine hS.mono ?_
      rintro e w2 ⟨rfl, HM2⟩
      clear hS
      go_wp2_with fail
      go_ret
      refine ⟨_, rfl, ?_⟩
      show Mem none_ w [TRow _ (sortT (s.files.filterMap plainF))] w2
      rw [← HE.out]
      exact HM2
    · intro k v seen' w2 hpm HM2 hmu hen
      have HP2 := Lib.hid (perm_step HP.out hpm)
      have hl2 : (leftZ es s.files seen').length + 1 = (leftZ es s.files seen).length := by rw [hpm.length_eq]; rfl
      have HA2 := Lib.hid (acc_step (x := (k, v)) HA.out)
      have hal := acc_len HP.out HA.out
      clear hz HM HP HA hpm hmu
      obtain ⟨ft, fm, fd⟩ := v
      unfold kL vF at hen ⊢
      simp only at hen ⊢
      have HMa := HM2.fbox VF.zero
      have HMb : Mem none_ w [TRow u3 acc, FBlk w2.heap.size ⟨ft, fm, fd⟩, IterC r mb clk seen'] _ := (HM2.fbox ⟨ft, fm, fd⟩).sel [2, 0, 1] (by decide)
      have a2 := FBlk.g2 (HMb.at_ 1 rfl)
      simp only at a2
      cases fd with
      | true =>
        have HMc := Lib.hid (HMb.sel [2, 0] (by decide))
        clear HMa HMb HM2
        go_wp2_with fail
        go_roundg ((leftZ es s.files seen').length)
        case measure => omega
        case rel =>
          have e : plainF (k, (⟨ft, fm, true⟩ : VF)) = none := rfl
          have h1 := HA2.out
          rw [e] at h1
          exact ⟨acc, _, seen', Nat.le_refl _, HP2.out, h1, HMc.out⟩
      | false =>
        clear HMa HM2
        go_wp2_with (at_builtin; refine wpList_appT strE rfl _ _ rfl HMb rfl k _ rfl ?hnb ?hb ?_; (case hnb => simp); (case hb => omega); intro v' w4 HMd HUd; have HMe := Lib.hid (HMd.sel [2, 0] (by decide)); clear HMd HUd HMb a2)
        go_roundg ((leftZ es s.files seen').length)
        case measure => omega
        case rel =>
          have e : plainF (k, (⟨ft, fm, false⟩ : VF)) = some k := rfl
          have h1 := HA2.out
          rw [e] at h1
          exact ⟨acc ++ [k], _, seen', Nat.le_refl _, HP2.out, h1, HMe.out⟩
set_option maxHeartbeats 8000000 in
theorem list_calls (h : (StoreC sb mb nv s).ok w) (hG : GoodS s) (p : List UInt8) (hp : p.length ≤ 150000) :
    Calls Tryd.prog 29 #[ptr sb, .string (ofL p)] w fun e w' => ∃ v, e = .returned (.tuple #[v, .int .i64 (listS s p).2]) ∧ Mem none_ w [TRow v (listS s p).1] w' := by
  have hF := find_calls h p (by omega)
  obtain ⟨⟨l', e'⟩, hW⟩ : ∃ R, listS s p = R := ⟨_, rfl⟩
  rw [hW]
  unfold listS at hW
  have hpa := hG.path
  have hlen := hG.len
  generalize findS s p = F at *
  obtain ⟨Fq, Ff, Fe⟩ := F
  obtain ⟨ft, fm, fd⟩ := Ff
  simp only at hF hW ⊢
  have HW := Lib.hid hW
  obtain ⟨es, clk, hz⟩ := MapC.z (StoreC.map_ h)
  have HZ := Lib.hid hz
  have hs0 := leftZ_start es s.files hz.len
  clear hW hG hz
  unfold vF at hF
  simp only at hF
  go_enter Tryd.func29, Tryd.ntmps29
  go_wp2_with fail
  refine hF.mono ?_
  rintro e w1 ⟨rfl, HM1⟩
  clear hF
  have HM2 := Lib.hid (HM1.fbox ⟨ft, fm, fd⟩)
  have a2 := FBlk.g2 (HM2.out.at_ 0 rfl)
  have hC := Pure.chunk HM2.out.mu h
  simp only at a2 hC
  clear HM1 h
  have HM0 := Lib.hid (Mem.nilT (HM2.out.sel [] (by decide)))
  clear HM2
  by_cases he : Fe = 0
  · have qe : ((Fe : Int) != 0) = false := by rw [bne_eq_false_iff_eq]; omega
    cases fd with
    | false =>
      go_wp2_with fail
      have h1 := HW.out
      rw [if_neg (by omega)] at h1
      first | rw [if_pos trivial] at h1 | rw [if_pos rfl] at h1
      cases h1
      exact bodyPost_ret (v := .tuple #[.slice none 0 0, .int .i64 8]) (by simp [results, Tryd.results29, go_sem]) rfl ⟨_, rfl, HM0.out⟩
    | true =>
      have c3 := StoreC.c3 hC
      have HM0' := HM0.out
      simp only at HM0'
      have hz0 := HZ.out.pure HM0'.mu
      clear hC HM0
      go_wp2_with (at_range; refine wpList_rangeM rfl _ _ rfl Tryd.underlying51 rfl HM0' hz0 ?_; intro w3 HM1 hp1)
      go_frame
      clear hz0 HM0' c3 a2 hp1
      generalize (w1.alloc (Obj.cells #[Value.string (ofL ft), Value.int IntKind.i64 fm, Value.bool true] 50)).heap.size = r at *
      go_loopg [9, 10] s.files.length (fun g v9 v10 wr => ∃ (acc : List (List UInt8)) (done : List (List UInt8 × VF)) (seen : Array Nat), (leftZ es s.files seen).length ≤ g ∧ Hid ((done ++ leftZ es s.files seen).Perm s.files) ∧ Hid (acc = done.filterMap (under Fq)) ∧ Mem none_ w [IterC r mb clk seen, TRow v9 acc] wr)
      case atStart => exact ⟨[], [], #[], by rw [hs0]; exact Nat.le_refl _, perm_start _ hs0, rfl, HM1⟩
      case round =>
        clear HM1 hs0
        obtain ⟨acc, done, seen, hg, HP, HA, HM⟩ := hrel
        have hz := HZ.out.pure HM.mu
        go_wp2_with (at_next; refine wpList_nextM rfl _ rfl HM hz rfl ?_ ?_)
        · intro h0
          have hd := perm_done HP.out h0
          have hal := acc_len HP.out HA.out
          have hS := sort_calls (HM.sel [1] (by decide)) (by omega)
          have HE := Lib.hid (sortT_perm (hd.filterMap (under Fq)))
          rw [← HA.out] at HE
          clear hz HM HP HA hd
          go_wp2_with fail
          refine hS.mono ?_
          rintro e w2 ⟨rfl, HM2⟩
          clear hS
          go_wp2_with fail
          have h1 := HW.out
          rw [if_neg (by omega), if_neg (by decide)] at h1
          cases h1
          refine bodyPost_ret (v := .tuple #[u9, .int .i64 0]) (by simp [results, Tryd.results29, go_sem]) rfl ⟨_, rfl, ?_⟩
          rw [← HE.out]
          exact HM2
        · intro k v seen' w2 hpm HM2 hmu hen
          have HP2 := Lib.hid (perm_step HP.out hpm)
          have hl2 : (leftZ es s.files seen').length + 1 = (leftZ es s.files seen).length := by rw [hpm.length_eq]; rfl
          have HA2 := Lib.hid (acc_step (x := (k, v)) HA.out)
          have hal := acc_len HP.out HA.out
          have hkl : k.length ≤ 1100003 := hpa (k, v) (HP2.out.mem_iff.1 (by simp))
          have hD := pdir_calls (s := k) (w := w2) (by omega)
          have hN := pname_calls (s := k) (w := w2) (by omega)
          have HM3 : Mem none_ w [TRow u9 acc, IterC r mb clk seen'] w2 := HM2.sel [1, 0] (by decide)
          have HMc := Lib.hid HM2
          have eU : Hid (under Fq (k, v) = if k = rootS then none else if dirL k = Fq then some (nameL k) else none) := by
            unfold Hid under
            by_cases h1 : k = rootS
            · rw [if_pos h1, if_neg (fun c => c.1 h1)]
            · by_cases h2 : dirL k = Fq
              · rw [if_neg h1, if_pos h2, if_pos ⟨h1, h2⟩]
              · rw [if_neg h1, if_neg h2, if_neg (fun c => h2 c.2)]
          clear hz HM HM2 HP HA hpm hmu
          obtain ⟨gt, gm, gd⟩ := v
          unfold kL vF at hen ⊢
          simp only at hen ⊢
          by_cases hk : k = rootS
          · have qk : (ofL k).toList = [47] := by rw [tl_of]; exact hk
            have eU2 : Hid (under Fq (k, (⟨gt, gm, gd⟩ : VF)) = none) := eU.out.trans (if_pos hk)
            clear hk eU
            go_wp2_with fail
            go_roundg ((leftZ es s.files seen').length)
            case measure => omega
            case rel =>
              have h1 := HA2.out
              rw [eU2.out] at h1
              exact ⟨acc, _, seen', Nat.le_refl _, HP2.out, h1, HMc.out⟩
          · have qk : ¬ (ofL k).toList = [47] := by rw [tl_of]; exact hk
            have qk2 : (!(ofL k).toList == [47]) = true := by rw [tl_of]; simpa using hk
            have eU2 : Hid (under Fq (k, (⟨gt, gm, gd⟩ : VF)) = if dirL k = Fq then some (nameL k) else none) := eU.out.trans (if_neg hk)
            clear hk eU
            go_wp2_with fail
            refine hD.mono ?_
            rintro e w5 ⟨rfl, rfl⟩
            clear hD
            have qd := str_eq (dirL k) Fq
            by_cases hd : dirL k = Fq
            · rw [decide_eq_true hd] at qd
              have eU3 : Hid (under Fq (k, (⟨gt, gm, gd⟩ : VF)) = some (nameL k)) := eU2.out.trans (if_pos hd)
              clear hd eU2
              go_wp2_with fail
              refine hN.mono ?_
              rintro e w5 ⟨rfl, rfl⟩
              clear hN
              go_wp2_with (at_builtin; refine wpList_appT strE rfl _ _ rfl HM3 rfl (nameL k) _ rfl ?hnb ?hb ?_; (case hnb => simp); (case hb => omega); intro v' w4 HMd HUd; have HMe := Lib.hid (HMd.sel [1, 0] (by decide)); clear HMd HUd HM3)
              go_roundg ((leftZ es s.files seen').length)
              case measure => omega
              case rel =>
                have h1 := HA2.out
                rw [eU3.out] at h1
                exact ⟨acc ++ [nameL k], _, seen', Nat.le_refl _, HP2.out, h1, HMe.out⟩
            · rw [decide_eq_false hd] at qd
              have eU3 : Hid (under Fq (k, (⟨gt, gm, gd⟩ : VF)) = none) := eU2.out.trans (if_neg hd)
              clear hd eU2 hN HM3
              go_wp2_with fail
              go_roundg ((leftZ es s.files seen').length)
              case measure => omega
              case rel =>
                have h1 := HA2.out
                rw [eU3.out] at h1
                exact ⟨acc, _, seen', Nat.le_refl _, HP2.out, h1, HMc.out⟩
  · have qe : ((Fe : Int) != 0) = true := by rw [bne_iff_ne]; omega
    go_wp2_with fail
    have h1 := HW.out
    rw [if_pos he] at h1
    cases h1
    exact bodyPost_ret (v := .tuple #[.slice none 0 0, .int .i64 e']) (by simp [results, Tryd.results29, go_sem]) rfl ⟨_, rfl, HM0.out⟩
end
end Go.Proofs.YtjhcabjlhnhkbaaDoor
