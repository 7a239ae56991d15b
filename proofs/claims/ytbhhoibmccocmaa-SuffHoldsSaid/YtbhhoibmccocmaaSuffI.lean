/-
  The walk of the statement SuffSome.
-/
import Derived.Test.YtbhhoibmccocmaaSuffH
import Derived.Test.YtbhhoibmccocmaaSuffP
set_option linter.unusedVariables false
set_option linter.unusedSimpArgs false
namespace Go.Proofs.Ytbhhoibmccocmaa
open Go.RowKit

theorem right_small {s : List ByteArray} {ways : List (ByteArray × ByteArray)} (h : rightOf s ways = true) (hf : farT s ways = false) : (∀ p, p ∈ ways → p.1.size ≤ 1000) ∧ ways.length ≤ 256 := by
  refine ⟨fun p hp => ?_, (right_in h).2⟩
  have := (right_in h).1 p hp
  unfold farT at hf
  simp only [Bool.or_eq_false_iff, List.any_eq_false, decide_eq_true_eq] at hf
  have := hf.2 p.1 this
  omega

/-- Chain, in all cases. -/
theorem chain_all (SV WV TV : Value) (s : List ByteArray) (ways : List (ByteArray × ByteArray)) (name : ByteArray) (there : List ByteArray) (w : World) (hS : Strs w SV s) (hW : Prs w WV ways) (hT : Strs w TV there)
    (hf : farT s ways = false) (hn : name.size ≤ 1000) :
    Calls Try.prog 8 #[.agg #[SV, WV], .string name, TV] w fun e w' => ∃ v c, e = .returned (.tuple #[v, .bool (rightOf s ways && hit ways name there)]) ∧ Mem none_ w [StrRow v c] w' ∧
      ((rightOf s ways && hit ways name there) = false → c = []) ∧ ((rightOf s ways && hit ways name there) = true → ∃ n l, c = (walkOf ways name there).2 :: l ∧ 1 ≤ n ∧ n ≤ 7 ∧ l.length = n ∧ Path (walkOf ways name []).1.makes name (walkOf ways name there).2 n ∧ (walkOf ways name there).2 ∈ there ∧ c[n]? = some name ∧
        ∀ i, i < n → ∃ z x, c[i]? = some z ∧ c[i + 1]? = some x ∧ z ∈ nextOf x ways ∧ (0 < i → z ∉ there)) := by
  cases hr : rightOf s ways
  · refine (chain_no SV WV TV s ways name w hS hW hr).mono ?_
    rintro e w' ⟨rfl, HM⟩
    exact ⟨_, [], rfl, HM.nilS, fun _ => rfl, fun h => by cases h⟩
  · obtain ⟨hw, hl⟩ := right_small hr hf
    cases hh : hit ways name there
    · refine (chain_miss SV WV TV s ways name there w hS hW hT hr hn hw hl hh).mono ?_
      rintro e w' ⟨rfl, HM⟩
      exact ⟨_, [], rfl, HM.nilS, fun _ => rfl, fun h => by cases h⟩
    · obtain ⟨n, l, f1, f2, f3, f4, f5, f6, f7, f8⟩ := chain_facts hh
      refine (chain_hit SV WV TV s ways name there w hS hW hT hr hn hw hl hh (n + 1) (by omega) l f3).mono ?_
      rintro e w' ⟨v, rfl, HM⟩
      exact ⟨v, _, rfl, HM, (fun h => by cases h), fun _ => ⟨n, l, rfl, f1, f2, f4, f5, f6, f7, f8⟩⟩

def reach2 (s : List ByteArray) (ways : List (ByteArray × ByteArray)) (name : ByteArray) : List ByteArray := if rightOf s ways then reachOf ways name else []
theorem reach_all (SV WV : Value) (s : List ByteArray) (ways : List (ByteArray × ByteArray)) (name : ByteArray) (w : World) (hS : Strs w SV s) (hW : Prs w WV ways) (hf : farT s ways = false) (hn : name.size ≤ 1000) :
    Calls Try.prog 12 #[.agg #[SV, WV], .string name] w fun e w' => ∃ v, e = .returned v ∧ Mem none_ w [StrRow v (reach2 s ways name)] w' := by
  unfold reach2
  cases hr : rightOf s ways
  · refine (reach_no SV WV s ways name w hS hW hr).mono ?_
    rintro e w' ⟨rfl, HM⟩
    exact ⟨_, rfl, HM.nilS⟩
  · obtain ⟨hw, hl⟩ := right_small hr hf
    exact reach_yes SV WV s ways name w hS hW hr hn hw hl

theorem some_pure (s : List ByteArray) (ways : List (ByteArray × ByteArray)) (name : ByteArray) (there : List ByteArray) :
    (rightOf s ways && hit ways name there) = (reach2 s ways name).any (fun x => mem there x) ∧ (name :: reach2 s ways name).Nodup ∧ (reach2 s ways name).length < 512 := by
  unfold reach2
  cases hr : rightOf s ways
  · simp
  · simp only [Bool.true_and, if_true]
    refine ⟨?_, (reach_facts).1, (reach_facts).2⟩
    rw [Bool.eq_iff_iff, hit_iff, List.any_eq_true]
    constructor
    · rintro ⟨y, h1, h2⟩; exact ⟨y, h1, (mem_iff _ _).2 h2⟩
    · rintro ⟨y, h1, h2⟩; exact ⟨y, h1, (mem_iff _ _).1 h2⟩

theorem any_take_succ {l : List ByteArray} {k : Nat} (h : k < l.length) (p : ByteArray → Bool) : (l.take (k + 1)).any p = ((l.take k).any p || p l[k]) := by
  rw [List.take_succ_eq_append_getElem h, List.any_append]
  simp

set_option maxHeartbeats 4000000 in
theorem some_calls (SV WV TV : Value) (s : List ByteArray) (ways : List (ByteArray × ByteArray)) (name : ByteArray) (there : List ByteArray) (w : World) (hS : Strs w SV s) (hW : Prs w WV ways) (hT : Strs w TV there) (hns : name.size ≤ 9223372036854775807) :
    Calls Try.prog 5 #[.agg #[SV, WV], .string name, TV] w fun e w' => e = .returned (.bool true) ∧ Mem none_ w [] w' := by
  obtain ⟨A, c, rfl, h1, h2, h3, h4⟩ := id hS
  obtain ⟨A', c', rfl, h1', h2', h3', h4'⟩ := id hW
  obtain ⟨AT, cT, rfl, t1, t2, t3, t4⟩ := id hT
  unfold maxLen at h2 h2' t2
  have HM0 := ((Mem.start (fp := none_) w).box #[.slice A s.length c, .slice A' ways.length c'] 25)
  cases hf : farT s ways
  · by_cases hn : 200 < name.size
    · have hn' : decide (200 < (name.size : Int)) = true := decide_eq_true (by omega)
      go_enter Try.func5, Try.ntmps5
      go_wp2_with (first | (go_at_call 6; refine (far_calls _ _ s ways _ (hS.pure HM0.mu) (hW.pure HM0.mu)).mono ?_; rintro e w1 ⟨rfl, HM1⟩) | (go_at_call 7; refine (alive_calls _).mono ?_; rintro e w2 ⟨rfl, HM2⟩))
      go_ret
      exact ⟨rfl, ((HM0.got HM1).got HM2).sel [] (by decide)⟩
    · have hn' : decide (200 < (name.size : Int)) = false := decide_eq_false (by omega)
      by_cases ht : 60 < there.length
      · have ht' : decide (60 < (there.length : Int)) = true := decide_eq_true (by omega)
        go_enter Try.func5, Try.ntmps5
        go_wp2_with (first | (go_at_call 6; refine (far_calls _ _ s ways _ (hS.pure HM0.mu) (hW.pure HM0.mu)).mono ?_; rintro e w1 ⟨rfl, HM1⟩) | (go_at_call 7; refine (alive_calls _).mono ?_; rintro e w2 ⟨rfl, HM2⟩))
        go_ret
        exact ⟨rfl, ((HM0.got HM1).got HM2).sel [] (by decide)⟩
      · have ht' : decide (60 < (there.length : Int)) = false := decide_eq_false (by omega)
        clear ht
        obtain ⟨P1, P2, P3⟩ := some_pure s ways name there
        have HP1 := Lib.hid P1
        have HP2 := Lib.hid P2
        clear P1 P2
        go_enter Try.func5, Try.ntmps5
        go_wp2_with fail
        refine (far_calls _ _ s ways _ (hS.pure HM0.mu) (hW.pure HM0.mu)).mono ?_
        rintro e w1 ⟨rfl, HM1⟩
        have HM2 := HM0.got HM1
        clear HM0 HM1
        have hb0 : w1.cell? ⟨w.heap.size, 0, none⟩ = some (.slice A s.length c) := Blk.cell HM2.head 0
        have hb1 : w1.cell? ⟨w.heap.size, 1, none⟩ = some (.slice A' ways.length c') := Blk.cell HM2.head 1
        go_wp2_with fail
        refine (theirs_calls _ _ s ways _ (hS.pure HM2.mu) (hW.pure HM2.mu)).mono ?_
        rintro e w2 ⟨rfl, HM3'⟩
        have HM3 := HM2.got HM3'
        clear HM2 HM3' hb0 hb1
        go_wp2_with fail
        refine (chain_all _ _ _ s ways name there _ (hS.pure HM3.mu) (hW.pure HM3.mu) (hT.pure HM3.mu) hf (by omega)).mono ?_
        rintro e w3 ⟨v3, c3, rfl, HM4', _, _⟩
        have HM4 := (HM3.got HM4').sel [1] (by decide)
        clear HM3 HM4'
        have hb0 : w3.cell? ⟨w.heap.size, 0, none⟩ = some (.slice A s.length c) := Blk.cell HM4.head 0
        have hb1 : w3.cell? ⟨w.heap.size, 1, none⟩ = some (.slice A' ways.length c') := Blk.cell HM4.head 1
        generalize hok : (rightOf s ways && hit ways name there) = ok at *
        clear hok
        generalize hrc : reach2 s ways name = L at *
        have HRC := Lib.hid hrc
        clear hrc
        go_wp2_with fail
        refine (theirs_calls _ _ s ways _ (hS.pure HM4.mu) (hW.pure HM4.mu)).mono ?_
        rintro e w4 ⟨rfl, HM5'⟩
        have HM5 := HM4.got HM5'
        clear HM4 HM5' hb0 hb1
        go_wp2_with fail
        refine (reach_all _ _ s ways name _ (hS.pure HM5.mu) (hW.pure HM5.mu) hf (by omega)).mono ?_
        rintro e w5 ⟨v5, rfl, HM6'⟩
        rw [HRC.out] at HM6'
        have HM6 := (HM5.got HM6').sel [0] (by decide)
        clear HM5 HM6'
        obtain ⟨AL, cL, rfl, l1, l2, l3, l4⟩ := Row.sl HM6.head
        unfold maxLen at l2
        go_wp2
        go_loopw [9, 40] (fun v9 v40 wr => ∃ k : Nat, k ≤ L.length ∧ v40 = .int .i64 k ∧ v9 = .bool ((L.take k).any fun x => mem there x) ∧ Mem none_ w [StrRow (.slice AL L.length cL) L] wr) (fun _ i _ => L.length - (intOf i).toNat)
        case atStart => exact ⟨0, Nat.zero_le _, rfl, rfl, HM6⟩
        case round =>
          clear HM6
          obtain ⟨k, hk, rfl, rfl, HM⟩ := hrel
          by_cases hlt : k < L.length
          · clear l4
            have hSL := Row.sl HM.head
            have hLk := Strs.take hSL (k := k) (by omega)
            obtain ⟨_, _, eq1, _, _, _, l4⟩ := hSL
            cases eq1
            obtain ⟨b, o, rfl, hcells⟩ := l4.resolve_left (by omega)
            have hx0 : wr.cell? ⟨b, o + k, none⟩ = some (.string L[k]) := hcells k _ (strs_get hlt)
            clear hcells l4
            have hne : (L[k].toList == name.toList) = false := by
              rw [strEq]
              refine decide_eq_false (fun e => ?_)
              exact (List.nodup_cons.1 HP2.out).1 (e ▸ List.getElem_mem hlt)
            have hnt : mem (L.take k) L[k] = false := by
              rw [mem_false]
              intro hm
              obtain ⟨j, hj, e⟩ := List.getElem_of_mem hm
              rw [List.getElem_take] at e
              have hjk : j < k := by simp at hj; omega
              have := (List.pairwise_iff_getElem.1 (List.nodup_cons.1 HP2.out).2) j k (by omega) hlt hjk
              exact this e
            have HA := Lib.hid (any_take_succ hlt (fun x => mem there x))
            have hkc : k ≤ cL := by omega
            have hTW := hT.pure HM.mu
            generalize L[k] = x at *
            cases hany : ((L.take k).any fun x => mem there x)
            · go_wp2_with fail
              refine (in_calls _ there x _ hTW).mono ?_
              rintro e w6 ⟨rfl, rfl⟩
              go_wp2_with fail
              refine (in_calls _ (L.take k) x _ hLk).mono ?_
              rintro e w6 ⟨rfl, rfl⟩
              go_wp2
              go_roundw
              case rel => exact ⟨k + 1, by omega, by go_num, by rw [HA.out, hany]; rfl, HM⟩
              case measure => simp [intOf]; omega
            · go_wp2_with fail
              refine (in_calls _ (L.take k) x _ hLk).mono ?_
              rintro e w6 ⟨rfl, rfl⟩
              go_wp2
              go_roundw
              case rel => exact ⟨k + 1, by omega, by go_num, by rw [HA.out, hany]; rfl, HM⟩
              case measure => simp [intOf]; omega
          · have e : k = L.length := by omega
            have hP3 : decide ((L.length : Int) < 512) = true := decide_eq_true (by omega)
            have hany : ((L.take k).any fun x => mem there x) = ok := by rw [e, List.take_length]; exact HP1.out.symm
            rw [hany]
            go_wp2_with fail
            refine (alive_calls _).mono ?_
            rintro e w7 ⟨rfl, HM7⟩
            go_wp2
            go_ret
            exact ⟨rfl, (HM.got HM7).sel [] (by decide)⟩
  · go_enter Try.func5, Try.ntmps5
    go_wp2_with (first | (go_at_call 6; refine (far_calls _ _ s ways _ (hS.pure HM0.mu) (hW.pure HM0.mu)).mono ?_; rintro e w1 ⟨rfl, HM1⟩) | (go_at_call 7; refine (alive_calls _).mono ?_; rintro e w2 ⟨rfl, HM2⟩))
    go_ret
    exact ⟨rfl, ((HM0.got HM1).got HM2).sel [] (by decide)⟩
end Go.Proofs.Ytbhhoibmccocmaa
