/-
  The walk of the statement SuffMore.
-/
import Derived.Test.YtbhhoibmccocmaaSuffI
import Derived.Test.YtbhhoibmccocmaaApp
set_option linter.unusedVariables false
set_option linter.unusedSimpArgs false
namespace Go.Proofs.Ytbhhoibmccocmaa
open Go.RowKit

/-- What a chain comes to. -/
def ChainR (s : List ByteArray) (ways : List (ByteArray × ByteArray)) (name : ByteArray) (there c : List ByteArray) : Prop :=
  ((rightOf s ways && hit ways name there) = false → c = []) ∧ ((rightOf s ways && hit ways name there) = true → ∃ n l, c = (walkOf ways name there).2 :: l ∧ 1 ≤ n ∧ n ≤ 7 ∧ l.length = n ∧ Path (walkOf ways name []).1.makes name (walkOf ways name there).2 n ∧ (walkOf ways name there).2 ∈ there ∧ c[n]? = some name ∧
        ∀ i, i < n → ∃ z x, c[i]? = some z ∧ c[i + 1]? = some x ∧ z ∈ nextOf x ways ∧ (0 < i → z ∉ there))
theorem chainR (SV WV TV : Value) (s : List ByteArray) (ways : List (ByteArray × ByteArray)) (name : ByteArray) (there : List ByteArray) (w : World) (hS : Strs w SV s) (hW : Prs w WV ways) (hT : Strs w TV there)
    (hf : farT s ways = false) (hn : name.size ≤ 1000) :
    Calls Try.prog 8 #[.agg #[SV, WV], .string name, TV] w fun e w' => ∃ v c, e = .returned (.tuple #[v, .bool (rightOf s ways && hit ways name there)]) ∧ Mem none_ w [StrRow v c] w' ∧ ChainR s ways name there c :=
  (chain_all SV WV TV s ways name there w hS hW hT hf hn).mono fun e w' ⟨v, c, h1, h2, h3, h4⟩ => ⟨v, c, h1, h2, h3, h4⟩

theorem more_pure {s : List ByteArray} {ways : List (ByteArray × ByteArray)} {name : ByteArray} {t1 t2 c1 c2 : List ByteArray} (hsub : ∀ y, y ∈ t1 → y ∈ t2) (h1 : ChainR s ways name t1 c1) (h2 : ChainR s ways name t2 c2) :
    (rightOf s ways && hit ways name t1) = false ∨ ((rightOf s ways && hit ways name t2) = true ∧ c2.length ≤ c1.length) := by
  cases h : (rightOf s ways && hit ways name t1)
  · exact .inl rfl
  · refine .inr ?_
    obtain ⟨n1, l1, rfl, _, _, e1, p1, _⟩ := h1.2 h
    rw [Bool.and_eq_true] at h
    have hh2 : hit ways name t2 = true := by
      cases h2 : hit ways name t2
      · rw [chain_none hsub h2] at h; cases h.2
      · rfl
    have hb : (rightOf s ways && hit ways name t2) = true := by rw [h.1, hh2]; rfl
    obtain ⟨n2, l2, rfl, _, _, e2, p2, _⟩ := h2.2 hb
    refine ⟨hb, ?_⟩
    have := (chain_more hsub h.2 p1 p2).2
    simp; omega

set_option maxHeartbeats 4000000 in
theorem more_calls (SV WV U0 U1 : Value) (s : List ByteArray) (ways : List (ByteArray × ByteArray)) (name : ByteArray) (l0 l1 : List ByteArray) (w : World) (hS : Strs w SV s) (hW : Prs w WV ways) (hT : Strs w U0 l0) (hT' : Strs w U1 l1) (hns : name.size ≤ 9223372036854775807)
    (hb0 : l0.length * 16 ≤ 140737488351232) (hb1 : l1.length * 16 ≤ 140737488351232) :
    Calls Try.prog 4 #[.agg #[SV, WV], .string name, .agg #[U0, U1]] w fun e w' => e = .returned (.bool true) ∧ Mem none_ w [] w' := by
  obtain ⟨A, c, rfl, h1, h2, h3, h4⟩ := id hS
  obtain ⟨A', c', rfl, h1', h2', h3', h4'⟩ := id hW
  obtain ⟨AT, cT, rfl, t1, t2, t3, t4⟩ := id hT
  obtain ⟨AU, cU, rfl, u1, u2, u3, u4⟩ := id hT'
  unfold maxLen at h2 h2' t2 u2
  clear h3 h4 h3' h4' t3 t4 u3 u4
  have HM0 := ((Mem.start (fp := none_) w).box #[.slice A s.length c, .slice A' ways.length c'] 25).box #[.slice AT l0.length cT, .slice AU l1.length cU] 35
  have esz : (w.alloc (.cells #[.slice A s.length c, .slice A' ways.length c'] 25)).heap.size = w.heap.size + 1 := by simp
  rw [esz] at HM0
  have hwr : IntKind.i64.wrap ((l0.length : Int) + (l1.length : Int)) = (l0.length : Int) + (l1.length : Int) := IntWalk.i64_in _ (by omega)
  cases hf : farT s ways
  · by_cases hn : 200 < name.size
    · have hn' : decide (200 < (name.size : Int)) = true := decide_eq_true (by omega)
      go_enter Try.func4, Try.ntmps4
      go_wp2_with (first | (go_at_call 6; refine (far_calls _ _ s ways _ (hS.pure HM0.mu) (hW.pure HM0.mu)).mono ?_; rintro e w1 ⟨rfl, HM1⟩) | (go_at_call 7; refine (alive_calls _).mono ?_; rintro e w2 ⟨rfl, HM2⟩))
      go_ret
      exact ⟨rfl, ((HM0.got HM1).got HM2).sel [] (by decide)⟩
    · have hn' : decide (200 < (name.size : Int)) = false := decide_eq_false (by omega)
      by_cases ht : 60 < l0.length + l1.length
      · have ht' : decide (60 < (l0.length : Int) + (l1.length : Int)) = true := decide_eq_true (by omega)
        go_enter Try.func4, Try.ntmps4
        go_wp2_with fail
        refine (far_calls _ _ s ways _ (hS.pure HM0.mu) (hW.pure HM0.mu)).mono ?_
        rintro e w1 ⟨rfl, HM1⟩
        have HM2 := HM0.got HM1
        clear HM0 HM1
        have hd0 : w1.cell? ⟨w.heap.size + 1, 0, none⟩ = some (.slice AT l0.length cT) := Blk.cell HM2.head 0
        have hd1 : w1.cell? ⟨w.heap.size + 1, 1, none⟩ = some (.slice AU l1.length cU) := Blk.cell HM2.head 1
        go_wp2_with (go_at_call 7; refine (alive_calls _).mono ?_; rintro e w2 ⟨rfl, HM3⟩)
        go_ret
        exact ⟨rfl, (HM2.got HM3).sel [] (by decide)⟩
      · have ht' : decide (60 < (l0.length : Int) + (l1.length : Int)) = false := decide_eq_false (by omega)
        go_enter Try.func4, Try.ntmps4
        go_wp2_with fail
        refine (far_calls _ _ s ways _ (hS.pure HM0.mu) (hW.pure HM0.mu)).mono ?_
        rintro e w1 ⟨rfl, HM1⟩
        have HM2 := HM0.got HM1
        clear HM0 HM1
        have hd0 : w1.cell? ⟨w.heap.size + 1, 0, none⟩ = some (.slice AT l0.length cT) := Blk.cell HM2.head 0
        have hd1 : w1.cell? ⟨w.heap.size + 1, 1, none⟩ = some (.slice AU l1.length cU) := Blk.cell HM2.head 1
        go_wp2
        refine wp_plan [5] (S := fun w' => w'.cell? ⟨w.heap.size, 0, none⟩ = some (.slice A s.length c) ∧ w'.cell? ⟨w.heap.size, 1, none⟩ = some (.slice A' ways.length c') ∧ w'.cell? ⟨w.heap.size + 1, 0, none⟩ = some (.slice AT l0.length cT) ∧ w'.cell? ⟨w.heap.size + 1, 1, none⟩ = some (.slice AU l1.length cU)) [(.load, 0), (.pure, 2), (.pure, 3), (.load, 4), (.eff, 1), (.tail, 5), (.pure, 6), (.pure, 7), (.pure, 8), (.pure, 9), (.pure, 10)] (by kernel_rfl) rfl (by kernel_rfl) rfl (fun _ _ _ _ _ h => h) ⟨Blk.cell HM2.drew.tail.head 0, Blk.cell HM2.drew.tail.head 1, Blk.cell HM2.drew.head 0, Blk.cell HM2.drew.head 1⟩ ?_
        have HM3 := HM2.drew
        clear HM2 hd0 hd1
        generalize w1.drew = W at *
        repeat (first | (refine plan_pure (v := ?_) (a' := ?_) rfl rfl rfl ?_ ?_ ?_; rotate_left 2; (focus (intro w'; go_simp; with_reducible rfl)); (focus (simp only [Act.put, List.setIfInBounds_toArray, List.set_cons_zero, List.set_cons_succ]; rfl))) | (refine plan_load (v := ?_) (a' := ?_) rfl rfl rfl ?_ ?_ ?_; rotate_left 2; (focus (rintro w' ⟨q0, q1, q2, q3⟩; go_simp; with_reducible rfl)); (focus (simp only [Act.put, List.setIfInBounds_toArray, List.set_cons_zero, List.set_cons_succ]; rfl))))
        refine plan_eff rfl (fun K hK => ?_)
        go_wp2_with fail
        refine (theirs_calls _ _ s ways _ (hS.pure HM3.mu) (hW.pure HM3.mu)).mono ?_
        rintro e w2 ⟨rfl, HM3'⟩
        have HM4 := HM3.got HM3'
        go_wp2
        refine hK _ _ ⟨Blk.cell HM4.tail.head 0, Blk.cell HM4.tail.head 1, Blk.cell HM4.head 0, Blk.cell HM4.head 1⟩ ?_
        refine plan_tail rfl (fun K hK => ?_)
        go_wp2_with fail
        refine (chainR _ _ _ s ways name l0 _ (hS.pure HM4.mu) (hW.pure HM4.mu) (hT.pure HM4.mu) hf (by omega)).mono ?_
        rintro e w3 ⟨v3, c3, rfl, HM5', C3⟩
        have HM5 := HM4.got HM5'
        clear HM3 HM3' HM4 HM5'
        go_wp2
        repeat (first | (refine plan_pure (v := ?_) (a' := ?_) rfl rfl rfl ?_ ?_ ?_; rotate_left 2; (focus (intro w'; go_simp; with_reducible rfl)); (focus (simp only [Act.put, List.setIfInBounds_toArray, List.set_cons_zero, List.set_cons_succ]; rfl))) | (refine plan_load (v := ?_) (a' := ?_) rfl rfl rfl ?_ ?_ ?_; rotate_left 2; (focus (rintro w' ⟨q0, q1, q2, q3⟩; go_simp; with_reducible rfl)); (focus (simp only [Act.put, List.setIfInBounds_toArray, List.set_cons_zero, List.set_cons_succ]; rfl))))
        refine plan_done ?_
        go_wp2
        generalize hok : (rightOf s ways && hit ways name l0) = ok
        have HOK := Lib.hid hok
        clear hok
        refine wp_plan [8, 9] (S := fun w' => w'.cell? ⟨w.heap.size, 0, none⟩ = some (.slice A s.length c) ∧ w'.cell? ⟨w.heap.size, 1, none⟩ = some (.slice A' ways.length c') ∧ w'.cell? ⟨w.heap.size + 1, 0, none⟩ = some (.slice AT l0.length cT) ∧ w'.cell? ⟨w.heap.size + 1, 1, none⟩ = some (.slice AU l1.length cU)) [(.load, 0), (.pure, 2), (.pure, 3), (.load, 4), (.pure, 6), (.load, 7), (.eff, 1), (.eff, 5), (.tail, 8), (.tail, 9), (.pure, 10), (.pure, 11), (.pure, 12), (.pure, 13), (.pure, 14)] (by kernel_rfl) rfl (by kernel_rfl) rfl (fun _ _ _ _ _ h => h) ⟨Blk.cell HM5.drew.tail.tail.head 0, Blk.cell HM5.drew.tail.tail.head 1, Blk.cell HM5.drew.tail.head 0, Blk.cell HM5.drew.tail.head 1⟩ ?_
        have HM6 := HM5.drew
        clear HM5
        generalize w3.drew = W at *
        repeat (first | (refine plan_pure (v := ?_) (a' := ?_) rfl rfl rfl ?_ ?_ ?_; rotate_left 2; (focus (intro w'; go_simp; with_reducible rfl)); (focus (simp only [Act.put, List.setIfInBounds_toArray, List.set_cons_zero, List.set_cons_succ]; rfl))) | (refine plan_load (v := ?_) (a' := ?_) rfl rfl rfl ?_ ?_ ?_; rotate_left 2; (focus (rintro w' ⟨q0, q1, q2, q3⟩; go_simp; with_reducible rfl)); (focus (simp only [Act.put, List.setIfInBounds_toArray, List.set_cons_zero, List.set_cons_succ]; rfl))))
        refine plan_eff rfl (fun K hK => ?_)
        go_wp2_with fail
        refine (theirs_calls _ _ s ways _ (hS.pure HM6.mu) (hW.pure HM6.mu)).mono ?_
        rintro e w4 ⟨rfl, HM6'⟩
        have HM7 := (HM6.got HM6').nilS
        clear HM6 HM6'
        go_wp2
        refine hK _ _ ⟨Blk.cell HM7.tail.tail.tail.head 0, Blk.cell HM7.tail.tail.tail.head 1, Blk.cell HM7.tail.tail.head 0, Blk.cell HM7.tail.tail.head 1⟩ ?_
        refine plan_eff rfl (fun K hK => ?_)
        refine wpList_appL strE rfl _ _ rfl HM7 rfl (m := l0) (xv := .slice AT l0.length cT) rfl (hT.pure HM7.mu) (by rw [List.length_nil]; omega) (fun v5 w5 HM8 _ => ?_)
        go_wp2
        refine hK _ _ ⟨Blk.cell HM8.tail.tail.tail.head 0, Blk.cell HM8.tail.tail.tail.head 1, Blk.cell HM8.tail.tail.head 0, Blk.cell HM8.tail.tail.head 1⟩ ?_
        refine plan_tail rfl (fun K hK => ?_)
        refine wpList_appL strE rfl _ _ rfl HM8 rfl (m := l1) (xv := .slice AU l1.length cU) rfl (hT'.pure HM8.mu) (by rw [List.nil_append]; omega) (fun v6 w6 HM9 _ => ?_)
        go_wp2
        refine plan_tail rfl (fun K hK => ?_)
        have hT6 := Row.sl HM9.head
        rw [List.nil_append] at hT6 HM9
        have hsub : ∀ y, y ∈ l0 → y ∈ l0 ++ l1 := fun y hy => List.mem_append_left _ hy
        generalize l0 ++ l1 = l2 at *
        obtain ⟨A6, c6, rfl, x1, x2, x3, x4⟩ := id hT6
        clear x3 x4
        go_wp2_with fail
        refine (chainR _ _ _ s ways name l2 _ (hS.pure HM9.mu) (hW.pure HM9.mu) hT6 hf (by omega)).mono ?_
        rintro e w7 ⟨v7, c7, rfl, HM9', C7⟩
        have HM10 := HM9.got HM9'
        clear HM7 HM8 HM9 HM9'
        go_wp2
        repeat (first | (refine plan_pure (v := ?_) (a' := ?_) rfl rfl rfl ?_ ?_ ?_; rotate_left 2; (focus (intro w'; go_simp; with_reducible rfl)); (focus (simp only [Act.put, List.setIfInBounds_toArray, List.set_cons_zero, List.set_cons_succ]; rfl))) | (refine plan_load (v := ?_) (a' := ?_) rfl rfl rfl ?_ ?_ ?_; rotate_left 2; (focus (rintro w' ⟨q0, q1, q2, q3⟩; go_simp; with_reducible rfl)); (focus (simp only [Act.put, List.setIfInBounds_toArray, List.set_cons_zero, List.set_cons_succ]; rfl))))
        refine plan_done ?_
        have HP := more_pure hsub C3 C7
        rw [HOK.out] at HP
        generalize (rightOf s ways && hit ways name l2) = is at *
        obtain ⟨A7, k7, rfl, y1, y2, y3, y4⟩ := Row.sl HM10.head
        obtain ⟨A3, k3, rfl, z1, z2, z3, z4⟩ := Row.sl HM10.tail.tail.head
        clear y3 y4 z3 z4
        rcases HP with rfl | ⟨rfl, hle⟩
        · go_wp2_with (go_at_call 7; refine (alive_calls _).mono ?_; rintro e w8 ⟨rfl, HM11⟩)
          go_ret
          exact ⟨rfl, (HM10.got HM11).sel [] (by decide)⟩
        · have hle' : decide ((c7.length : Int) ≤ (c3.length : Int)) = true := decide_eq_true (by omega)
          cases ok
          · go_wp2_with (go_at_call 7; refine (alive_calls _).mono ?_; rintro e w8 ⟨rfl, HM11⟩)
            go_ret
            exact ⟨rfl, (HM10.got HM11).sel [] (by decide)⟩
          · go_wp2_with (go_at_call 7; refine (alive_calls _).mono ?_; rintro e w8 ⟨rfl, HM11⟩)
            go_ret
            exact ⟨rfl, (HM10.got HM11).sel [] (by decide)⟩
  · go_enter Try.func4, Try.ntmps4
    go_wp2_with (first | (go_at_call 6; refine (far_calls _ _ s ways _ (hS.pure HM0.mu) (hW.pure HM0.mu)).mono ?_; rintro e w1 ⟨rfl, HM1⟩) | (go_at_call 7; refine (alive_calls _).mono ?_; rintro e w2 ⟨rfl, HM2⟩))
    go_ret
    exact ⟨rfl, ((HM0.got HM1).got HM2).sel [] (by decide)⟩
end Go.Proofs.Ytbhhoibmccocmaa
