/-
  The walk of layer 19 (plan): build.
-/
import Derived.Test.YtliglejbkpjamaaVPlanE
import Derived.Test.YtliglejbkpjamaaVPlanQ
import Derived.Test.YtliglejbkpjamaaVFork
set_option linter.unusedVariables false
set_option linter.unusedSimpArgs false
namespace Go.Proofs.Ytliglejbkpjamaa
open Go.RowKit

/-- n stands in slots 23 and 25. -/
def TwoN (n : Nat) (A : Act) : Prop := A.eval (.tmp 23) = .int .i64 n ∧ A.eval (.tmp 25) = .int .i64 n
theorem TwoN.put {n : Nat} {A : Act} {N : Nat} {v : Value} (h : TwoN n A) (hN : N = 22 ∨ N = 24 ∨ N = 26) : TwoN n (A.put (some N) v) := by
  obtain ⟨h1, h2⟩ := h
  unfold Act.eval at h1 h2
  refine ⟨?_, ?_⟩
  · unfold Act.eval Act.put
    rcases hN with rfl | rfl | rfl <;> simpa [Array.getD_eq_getD_getElem?] using h1
  · unfold Act.eval Act.put
    rcases hN with rfl | rfl | rfl <;> simpa [Array.getD_eq_getD_getElem?] using h2
theorem Mem.zerosN {fp : Nat → Prop} {w0 W : World} {F : List Chunk} (h : Mem fp w0 F W) (n : Nat) (hn : n ≤ 1000000) :
    Mem fp w0 (Many (NestC (.slice (some ⟨W.heap.size, 0, none⟩) n n) (List.replicate n (.slice none 0 0)) (List.replicate n [])) :: F) (W.alloc (.cells (List.replicate n (.slice none 0 0)).toArray 78)) := by
  have h1 := h.zerosL n hn
  refine Mem.shut_ ?_
  unfold NestC
  rw [List.length_replicate]
  refine h1.perm ?_
  simp only [List.cons_append]
  exact (List.perm_append_comm).cons _

theorem Mem.nilNP {fp : Nat → Prop} {w0 W : World} {F : List Chunk} (h : Mem fp w0 F W) : Mem fp w0 (Many (NestC (.slice none 0 0) [] []) :: F) W := by
  refine Mem.shut_ (cs := NestC (.slice none 0 0) [] []) ?_
  exact Mem.new h (Mut.refl _ _) (by exact World.ownsRow_nil _ _ _ _) (by intro b hb; cases hb)
/-- The plan when k nodes have been named. -/
def namedV (mb : Nat) (vU vS vN : Value) (n : Nat) : PV := { vN := vN, mb := mb, vE := .slice none 0 0, vB := .slice none 0 0, vU := vU, vS := vS, es := [], bs := [], us := List.replicate n (.slice none 0 0) }
def namedS (g : List Nd) (k : Nat) (m : List (ByteArray × Int)) : PS := { names := (g.take k).map (·.name), at_ := m, needs := [], behind := [], users := List.replicate g.length [], states := List.replicate g.length 0, counts := [0, 0, 0, 0, 0] }

/-- The plan when the edges of k nodes have been laid. -/
def edgeV (mb : Nat) (vU vS vN vE vB : Value) (es bs us : List Value) : PV := { vN := vN, mb := mb, vE := vE, vB := vB, vU := vU, vS := vS, es := es, bs := bs, us := us }
def edgeS (g : List Nd) (m : List (ByteArray × Int)) (E : List (List Int × List Int)) (U : List (List Int)) : PS := { names := g.map (·.name), at_ := m, needs := E.map (·.1), behind := E.map (·.2), users := U, states := List.replicate g.length 0, counts := [0, 0, 0, 0, 0] }
section
variable {fp : Nat → Prop} {w0 w : World} {F : List Chunk} {v u : Value} {vs : List Value} {ls : List (List Int)} {l : List Int}
theorem Mem.nestSplit (h : Mem fp w0 (Many (NestC v vs ls) :: F) w) : Mem fp w0 (Row 78 1 v ls.length vs :: Many (List.zipWith IRow vs ls) :: F) w := by
  have h1 : Mem fp w0 (Row 78 1 v ls.length vs :: (List.zipWith IRow vs ls ++ F)) w := h.open_
  exact Mem.front [_] (Mem.shut_ (cs := List.zipWith IRow vs ls) (Mem.back _ h1))
theorem Mem.nestJoin (h : Mem fp w0 (Row 78 1 v ls.length vs :: Many (List.zipWith IRow vs ls) :: F) w) : Mem fp w0 (Many (NestC v vs ls) :: F) w := by
  have h1 := Mem.open_ (Mem.back [_] h)
  exact Mem.shut_ (cs := NestC v vs ls) (Mem.front _ h1)
theorem Mem.nestJoin' {n : Nat} (hn : ls.length = n) (h : Mem fp w0 (Row 78 1 v n vs :: Many (List.zipWith IRow vs ls) :: F) w) : Mem fp w0 (Many (NestC v vs ls) :: F) w := by
  subst hn
  exact h.nestJoin
theorem Mem.nestShut {n : Nat} (hn : ls.length = n) (h : Mem fp w0 (Row 78 1 v n vs :: (List.zipWith IRow vs ls ++ F)) w) : Mem fp w0 (Many (NestC v vs ls) :: F) w := by
  subst hn
  exact Mem.shut_ (cs := NestC v vs ls) h
theorem Mem.zipAdd (h : Mem fp w0 (Many (List.zipWith IRow vs ls) :: IRow u l :: F) w) (hl : vs.length = ls.length) : Mem fp w0 (Many (List.zipWith IRow (vs ++ [u]) (ls ++ [l])) :: F) w := by
  refine Mem.shut_ ?_
  rw [List.zipWith_append hl]
  have h1 := h.open_
  exact h1.perm (by simp)
end
theorem build1_run {a : Act} {w : World} {A : Option Addr} {n c j : Nat} (e1 : a.eval (.tmp j) = .slice A n c) (o : Oper) (ho : o.op = .buildSlice 77 1 #[(0, .tmp j)]) :
    (execOp a.eval o).run Try.prog w = .ok (.value (.slice (some ⟨w.heap.size, 0, none⟩) 1 1)) (w.alloc (.cells #[.slice A n c] 78)) := by
  have e2 : a.tmps[j]?.getD undef = .slice A n c := by
    have := e1
    unfold Act.eval at this
    simpa [Array.getD_eq_getD_getElem?] using this
  clear e1
  unfold execOp
  rw [ho]
  go_simp
/-- places, in one word. -/
theorem places_one {mb : Nat} {m : List (ByteArray × Int)} (LV : Value) (l : List ByteArray) (ahead : Int) (w : World) (hM : (MapC mb Value.string (Value.int .i64) m).ok w) (hL : Strs w LV l) (hb : l.length ≤ 100000) :
    Calls Try.prog 54 #[.map (some mb), LV, .int .i64 ahead] w fun e w' => ∃ v, e = .returned (.tuple #[v, .bool (placesOf m ahead l).isSome]) ∧ Mem none_ w [IRow v ((placesOf m ahead l).getD [])] w' := by
  refine (places_calls LV l ahead w hM hL hb).mono ?_
  rintro e w' ⟨h1, h2⟩
  cases hp : placesOf m ahead l with
  | none =>
    obtain ⟨rfl, hm⟩ := h1 hp
    exact ⟨_, rfl, hm.nilI⟩
  | some a =>
    obtain ⟨v, rfl, hm⟩ := h2 a hp
    exact ⟨v, rfl, hm⟩
theorem usRun_snoc : ∀ (r : List (List Int)) (i : Nat) (us : List (List Int)) (a : List Int), usRun i us (r ++ [a]) = pushAll ((i + r.length : Nat) : Int) (usRun i us r) a
  | [], i, us, a => by simp [usRun]
  | b :: r, i, us, a => by
    rw [List.cons_append, usRun, usRun, usRun_snoc r]
    congr 1
    simp only [List.length_cons]
    omega
theorem edRun_len (m : List (ByteArray × Int)) (n : Nat) : ∀ (g : List Nd) (i : Nat) (acc E : List (List Int × List Int)), edRun m n i acc g = some E → E.length = acc.length + g.length
  | [], i, acc, E, h => by cases h; simp
  | x :: g, i, acc, E, h => by
    unfold edRun at h
    split at h
    · have := edRun_len m n g _ _ _ h
      simp at this ⊢; omega
    · cases h

set_option maxRecDepth 100000 in
set_option maxHeartbeats 8000000 in
theorem build_callsP (GV NV : Value) (g : List Nd) (w : World) (hG : Nodes w NV g) (hL : ∀ x, x ∈ g → x.src.length ≤ 50000 ∧ x.aft.length ≤ 50000) (hgl : g.length ≤ 1000000) :
    Calls Try.prog 30 #[.agg #[GV, NV]] w fun e w' => (buildOf g = none → e = .returned (.pointer none) ∧ Mem none_ w [] w') ∧
      (∀ s, buildOf g = some s → ∃ b V, e = .returned (.pointer (some ⟨b, 0, none⟩)) ∧ PlanOk s ∧ Mem none_ w [PlanC b V s] w') := by
  obtain ⟨A, c, rfl, nn1, nn2⟩ : ∃ A c, NV = .slice A g.length c ∧ g.length ≤ c ∧ c ≤ maxLen := by
    obtain ⟨cells, h, _⟩ := hG
    exact Sl.any_ h
  unfold maxLen at nn2
  have HM0 := (Mem.start (fp := none_) w).box #[GV, .slice A g.length c] 29
  by_cases hbig : 512 < g.length
  · have hd : decide (512 < (g.length : Int)) = true := decide_eq_true (by omega)
    have hN : buildOf g = none := by unfold buildOf; rw [if_pos hbig]
    have HN := Lib.hid hN
    clear hN
    go_enter Try.func30, Try.ntmps30
    go_wp2
    go_ret
    exact ⟨fun _ => ⟨rfl, HM0.sel [] (by decide)⟩, fun s h => by rw [HN.out] at h; cases h⟩
  · have hd : decide (512 < (g.length : Int)) = false := decide_eq_false (by omega)
    go_enter Try.func30, Try.ntmps30
    go_wp2
    refine lf_start (fun _ => True) [] 8 (by kernel_rfl) rfl (by kernel_rfl) trivial ?_
    have HM1 := HM0.drew
    have hgb : ((World.drew (w.alloc (.cells #[GV, .slice A g.length c] 29)))).heap.size = w.heap.size + 1 := by simp
    clear HM0
    generalize (World.drew _) = W at *
    refine lf_pre [(.pure, 1), (.pure, 3)] [3, 1] 6 rfl (by kernel_rfl) (fun _ _ _ _ _ h => h) trivial ?_
    refine pre_pure rfl rfl (by kernel_rfl) (fun w => by go_simp; with_reducible rfl) (by simp only [Act.put, List.setIfInBounds_toArray, List.set_cons_zero, List.set_cons_succ]; rfl) ?_
    refine pre_pure rfl rfl (by kernel_rfl) (fun w => by go_simp; with_reducible rfl) (by simp only [Act.put, List.setIfInBounds_toArray, List.set_cons_zero, List.set_cons_succ]; rfl) ?_
    refine pre_done ?_
    refine lf_name (fun A0 hA0 => ?_)
    refine three_allocs (k := 3) (TwoN g.length) 0 2 4 22 24 26 (fun b => .map (some b)) (fun b => .slice (some ⟨b, 0, none⟩) g.length g.length) (fun b => .slice (some ⟨b, 0, none⟩) g.length g.length)
      (.map #[] 0) (.cells (ints (List.replicate g.length 0)).toArray 3) (.cells (List.replicate g.length (Value.slice none 0 0)).toArray 78)
      (fun b => [MapC b Value.string (Value.int .i64) ([] : List (ByteArray × Int))]) (fun b => [IRow (.slice (some ⟨b, 0, none⟩) g.length g.length) (List.replicate g.length 0)]) (fun b => [Many (NestC (.slice (some ⟨b, 0, none⟩) g.length g.length) (List.replicate g.length (.slice none 0 0)) (List.replicate g.length []))])
      (by kernel_rfl) (by kernel_rfl) (by kernel_rfl) (by kernel_rfl) (by kernel_rfl) (by kernel_rfl) (by kernel_rfl) (by kernel_rfl) (by kernel_rfl) (by kernel_rfl) (by kernel_rfl) (by decide) (by decide) (by decide) rfl rfl rfl rfl rfl rfl (fun _ => rfl) (fun _ => rfl) (fun _ => rfl)
      (fun a w _ => ?_) (fun a w he => ?_) (fun a w he => ?_) ?_ (fun a N v h hN => h.put hN) (fun _ => trivial) (fun F w h => MapC.made h _ _) (fun F w h => h.zerosI _ (by omega)) (fun F w h => h.zerosN _ (by omega)) HM1 (fun mb sb ub W2 HM2 => ?_)
    · have hmm := @run_makeMap Try.prog
      go_simp
    · have hmI := madeI g.length (by omega)
      have e1 := he.1
      show (execOp a.eval { dst := some 24, op := .makeSlice 78 (.tmp 23) (.tmp 23), type := 78, pos := _, after := _, guard := _ }).run _ _ = _
      simp only [execOp, e1, hmI, Sem.run_bind, Result.andThen_ok, Sem.run_pure]
    · have hmL := madeL g.length (by omega)
      have e1 := he.2
      show (execOp a.eval { dst := some 26, op := .makeSlice 77 (.tmp 25) (.tmp 25), type := 77, pos := _, after := _, guard := _ }).run _ _ = _
      simp only [execOp, e1, hmL, Sem.run_bind, Result.andThen_ok, Sem.run_pure]
    · rw [hA0.out]; exact ⟨rfl, rfl⟩
    · have hA1 := hA0.out
      subst hA1
      refine lf_one 5 (by kernel_rfl) rfl (fun K hK => ?_)
      simp only [Act.put, List.setIfInBounds_toArray, List.set_cons_zero, List.set_cons_succ]
      go_wp2
      refine hK _ _ (fun _ _ => trivial) ?_
      clear hK hA0
      refine lf_one 6 (by kernel_rfl) rfl (fun K hK => ?_)
      go_wp2
      refine hK _ _ (fun _ _ => trivial) ?_
      clear hK
      refine lf_one 7 (by kernel_rfl) rfl (fun K hK => ?_)
      go_wp2
      refine hK _ _ (fun _ _ => trivial) ?_
      clear hK
      refine lf_end (by kernel_rfl) ?_
      have HM3 := (((HM2.box #[.slice none 0 0, .map (some mb), .slice none 0 0, .slice none 0 0, .slice (some ⟨ub, 0, none⟩) g.length g.length, .slice (some ⟨sb, 0, none⟩) g.length g.length, .int .i64 0, .int .i64 0, .int .i64 0, .int .i64 0, .int .i64 0] 81).nilS).nilNP).nilNP
      have HM4 : Mem none_ w ([Blk W2.heap.size 81 ((namedV mb (.slice (some ⟨ub, 0, none⟩) g.length g.length) (.slice (some ⟨sb, 0, none⟩) g.length g.length) (.slice none 0 0) g.length).cells (namedS g 0 [])), IRow (.slice (some ⟨sb, 0, none⟩) g.length g.length) (List.replicate g.length 0)] ++ PlanF (namedV mb (.slice (some ⟨ub, 0, none⟩) g.length g.length) (.slice (some ⟨sb, 0, none⟩) g.length g.length) (.slice none 0 0) g.length) (namedS g 0 []) ++ [Blk w.heap.size 29 #[GV, Value.slice A g.length c]]) (W2.alloc (.cells #[.slice none 0 0, .map (some mb), .slice none 0 0, .slice none 0 0, .slice (some ⟨ub, 0, none⟩) g.length g.length, .slice (some ⟨sb, 0, none⟩) g.length g.length, .int .i64 0, .int .i64 0, .int .i64 0, .int .i64 0, .int .i64 0] 81)) := HM3.sel [3, 5, 2, 4, 0, 1, 6, 7] (by decide)
      have HM5 := HM4.shut_
      clear HM1 HM2 HM3 HM4
      generalize W2.heap.size = pb at *
      generalize W2.alloc _ = W3 at *
      clear hgb W2 W
      generalize (Value.slice (some ⟨ub, 0, none⟩) g.length g.length) = vU at *
      have hgc : (Blk w.heap.size 29 #[GV, .slice A g.length c]).ok W3 := HM5.star.1 _ (by simp)
      have c1 : W3.cell? ⟨w.heap.size, 1, none⟩ = some (.slice A g.length c) := by rw [Blk.cell_ hgc]; rfl
      clear hgc
      go_wp2
      clear c1
      go_loopw [32] (fun v32 wr => ∃ (k : Nat) (m : List (ByteArray × Int)) (vN : Value), k ≤ g.length ∧ v32 = .int .i64 k ∧ Hid (atRun m k (g.drop k) = atRun [] 0 g) ∧
        Mem none_ w [PlanC pb (namedV mb vU (.slice (some ⟨sb, 0, none⟩) g.length g.length) vN g.length) (namedS g k m), Blk w.heap.size 29 #[GV, .slice A g.length c]] wr) (fun v32 _ => g.length - (intOf v32).toNat)
      case atStart => exact ⟨0, [], _, Nat.zero_le _, rfl, by unfold Hid; rfl, HM5⟩
      case round =>
        clear HM5
        obtain ⟨k, m, vN, hk, rfl, HA, HM⟩ := hrel
        by_cases hlt : k < g.length
        · have hlt' : decide ((k : Int) < (g.length : Int)) = true := decide_eq_true (by omega)
          obtain ⟨gb, go, kd, sv, cA, cn, cc, av, im, ph, pr, si, ig, rfl, hsv, hav, hcell⟩ := (hG.pure HM.mu).cells hlt
          obtain ⟨sA, sc, rfl, sl1, sl2⟩ := Sl.any_ hsv
          obtain ⟨aA, ac, rfl, al1, al2⟩ := Sl.any_ hav
          have x0 := hcell 0 _ rfl
          rw [Nat.add_zero] at x0
          have x1 := hcell 1 _ rfl
          have x2 := hcell 2 _ rfl
          have x3 := hcell 3 _ rfl
          have x4 := hcell 4 _ rfl
          have x5 := hcell 5 _ rfl
          have x6 := hcell 6 _ rfl
          have x7 := hcell 7 _ rfl
          have x8 := hcell 8 _ rfl
          have x9 := hcell 9 _ rfl
          clear hcell
          have HMx := (HM.box #[.string g[k].name, .int .i64 kd, .slice sA g[k].src.length sc, .slice cA cn cc, .slice aA g[k].aft.length ac, .string im, .bool ph, .bool pr, .bool si, .bool ig] 38).drew
          have hA1 := HA.out
          rw [List.drop_eq_getElem_cons hlt, atRun] at hA1
          have hT := Lib.hid (List.take_succ_eq_append_getElem hlt)
          go_wp2
          clear x0 x1 x2 x3 x4 x5 x6 x7 x8 x9 hsv hav sl1 sl2 al1 al2 HM
          generalize g[k] = x at *
          cases hg : mget m x.name with
          | some i =>
            have hmh : mhas m x.name = true := by simp [mhas, hg]
            rw [if_pos hmh] at hA1
            have hN : buildOf g = none := by unfold buildOf; rw [if_neg hbig, ← hA1]
            have HN := Lib.hid hN
            clear hA1 HA hN hmh hT
            refine wp_plan [] (S := fun w' => w' = World.drew _) [(.pure, 0), (.pure, 1), (.pure, 2), (.load, 3), (.pure, 4), (.load, 5), (.load, 6), (.pure, 7), (.pure, 8), (.pure, 9), (.pure, 10), (.pure, 11)] (by kernel_rfl) rfl (by kernel_rfl) rfl (fun _ _ _ _ _ h => h) rfl ?_
            have hXb : (Blk wr.heap.size 38 _).ok _ := HMx.head
            have hP : PlanR pb _ _ _ := PlanC.reads (HMx.tail).head
            generalize wr.heap.size = xb at *
            generalize World.drew _ = W4 at *
            have y0 : W4.cell? ⟨xb, 0, none⟩ = some (.string x.name) := by rw [Blk.cell_ hXb]; rfl
            have y1 : W4.cell? ⟨pb, 1, none⟩ = some (.map (some mb)) := hP.c1
            have hlk := MapC.lookup (c := true) keySP Try.underlying65 (zeroI W4) hP.mp x.name
            have hlk2 : (Instr.lookup 65 (.map (some mb)) (.string x.name) true).run Try.prog W4 = .ok (.tuple #[.int .i64 i, .bool true]) W4 := by
              rw [if_pos rfl] at hlk
              simpa [namedS, hg, mhas, namedV] using hlk
            clear hlk hXb hP hg
            repeat (first | (refine plan_pure (v := ?_) (a' := ?_) rfl rfl rfl ?_ ?_ ?_; rotate_left 2; (focus (intro w'; go_simp; with_reducible rfl)); (focus (simp only [Act.put, List.setIfInBounds_toArray, List.set_cons_zero, List.set_cons_succ]; rfl))) | (refine plan_load (v := ?_) (a' := ?_) rfl rfl rfl ?_ ?_ ?_; rotate_left 2; (focus (intro w' hw'; rw [hw']; go_simp; with_reducible rfl)); (focus (simp only [Act.put, List.setIfInBounds_toArray, List.set_cons_zero, List.set_cons_succ]; rfl))))
            refine plan_done ?_
            clear y0 y1 hlk2
            go_wp2
            go_ret
            exact ⟨fun _ => ⟨rfl, HMx.sel [] (by decide)⟩, fun s h => by rw [HN.out] at h; cases h⟩
          | none =>
            have hmh : mhas m x.name = false := by simp [mhas, hg]
            rw [hmh, if_neg (by decide)] at hA1
            have HA2 := Lib.hid hA1
            clear hA1 HA hmh
            refine wp_plan [] (S := fun w' => w' = World.drew _) [(.pure, 0), (.pure, 1), (.pure, 2), (.load, 3), (.pure, 4), (.load, 5), (.load, 6), (.pure, 7), (.pure, 8), (.pure, 9), (.pure, 10), (.pure, 11)] (by kernel_rfl) rfl (by kernel_rfl) rfl (fun _ _ _ _ _ h => h) rfl ?_
            have hXb : (Blk wr.heap.size 38 _).ok _ := HMx.head
            have hP : PlanR pb _ _ _ := PlanC.reads (HMx.tail).head
            generalize wr.heap.size = xb at *
            generalize World.drew _ = W4 at *
            have y0 : W4.cell? ⟨xb, 0, none⟩ = some (.string x.name) := by rw [Blk.cell_ hXb]; rfl
            have y1 : W4.cell? ⟨pb, 1, none⟩ = some (.map (some mb)) := hP.c1
            have hlk := MapC.lookup (c := true) keySP Try.underlying65 (zeroI W4) hP.mp x.name
            have hlk2 : (Instr.lookup 65 (.map (some mb)) (.string x.name) true).run Try.prog W4 = .ok (.tuple #[.int .i64 0, .bool false]) W4 := by
              rw [if_pos rfl] at hlk
              simpa [namedS, hg, mhas, namedV] using hlk
            clear hlk hXb hP
            repeat (first | (refine plan_pure (v := ?_) (a' := ?_) rfl rfl rfl ?_ ?_ ?_; rotate_left 2; (focus (intro w'; go_simp; with_reducible rfl)); (focus (simp only [Act.put, List.setIfInBounds_toArray, List.set_cons_zero, List.set_cons_succ]; rfl))) | (refine plan_load (v := ?_) (a' := ?_) rfl rfl rfl ?_ ?_ ?_; rotate_left 2; (focus (intro w' hw'; rw [hw']; go_simp; with_reducible rfl)); (focus (simp only [Act.put, List.setIfInBounds_toArray, List.set_cons_zero, List.set_cons_succ]; rfl))))
            refine plan_done ?_
            clear y0 y1 hlk2
            go_wp2
            -- R11: p.at[x.Name] = i
            have HM5 := (((HMx.drew).front [_]).open_).front [_, _, _]
            clear HMx
            refine wp_plan [7] (S := fun w' => Hid (w'.cell? ⟨pb, 1, none⟩ = some (.map (some mb)) ∧ w'.cell? ⟨xb, 0, none⟩ = some (.string x.name))) [(.pure, 0), (.pure, 1), (.pure, 2), (.load, 3), (.pure, 4), (.load, 5), (.pure, 6), (.tail, 7)] (by kernel_rfl) rfl (by kernel_rfl) rfl (fun _ _ _ _ _ h => h) ?_ ?_
            · have hb1 : (Blk pb 81 _).ok _ := HM5.at_ 1 rfl
              have hb2 : (Blk xb 38 _).ok _ := HM5.at_ 7 rfl
              exact Lib.hid ⟨by rw [Blk.cell_ hb1]; rfl, by rw [Blk.cell_ hb2]; rfl⟩
            generalize World.drew _ = W5 at *
            repeat (first | (refine plan_pure (v := ?_) (a' := ?_) rfl rfl rfl ?_ ?_ ?_; rotate_left 2; (focus (intro w'; go_simp; with_reducible rfl)); (focus (simp only [Act.put, List.setIfInBounds_toArray, List.set_cons_zero, List.set_cons_succ]; rfl))) | (refine plan_load (v := ?_) (a' := ?_) rfl rfl rfl ?_ ?_ ?_; rotate_left 2; (focus (intro w' hw'; obtain ⟨q0, q1⟩ := hw'.out; clear hw'; go_simp; with_reducible rfl)); (focus (simp only [Act.put, List.setIfInBounds_toArray, List.set_cons_zero, List.set_cons_succ]; rfl))))
            refine plan_tail_put rfl rfl (fun K hK => ?_)
            refine wpList_put keySP Try.underlying65 rfl _ _ _ (.inl rfl) HM5 rfl x.name rfl (k : Int) rfl ?_
            intro W6 HM6 HU6
            refine wpList_nil_ (hK _ _ (plan_done ?_))
            dsimp only [Act.put]
            clear hK HU6 HM5 W5 W4
            go_wp2
            -- R12: p.names = append(p.names, x.Name)
            have HM7 := ((HM6.drew.back [_, _, _]).front [_, _])
            clear HM6
            refine wp_plan [8, 11] (S := fun w' => Hid (w'.cell? ⟨pb, 0, none⟩ = some vN ∧ w'.cell? ⟨xb, 0, none⟩ = some (.string x.name))) [(.pure, 0), (.pure, 1), (.pure, 2), (.pure, 3), (.load, 4), (.pure, 5), (.load, 6), (.eff, 7), (.tail, 8), (.pure, 9), (.pure, 10), (.tail, 11)] (by kernel_rfl) rfl (by kernel_rfl) rfl (fun _ _ _ _ _ h => h) ?_ ?_
            · have hb1 : (Blk pb 81 _).ok _ := HM7.at_ 1 rfl
              have hb2 : (Blk xb 38 _).ok _ := HM7.at_ 7 rfl
              exact Lib.hid ⟨by rw [Blk.cell_ hb1]; rfl, by rw [Blk.cell_ hb2]; rfl⟩
            generalize World.drew _ = W5 at *
            repeat (first | (refine plan_pure (v := ?_) (a' := ?_) rfl rfl rfl ?_ ?_ ?_; rotate_left 2; (focus (intro w'; go_simp; with_reducible rfl)); (focus (simp only [Act.put, List.setIfInBounds_toArray, List.set_cons_zero, List.set_cons_succ]; rfl))) | (refine plan_load (v := ?_) (a' := ?_) rfl rfl rfl ?_ ?_ ?_; rotate_left 2; (focus (intro w' hw'; obtain ⟨q0, q1⟩ := hw'.out; clear hw'; go_simp; with_reducible rfl)); (focus (simp only [Act.put, List.setIfInBounds_toArray, List.set_cons_zero, List.set_cons_succ]; rfl))))
            refine plan_eff rfl (fun K hK => ?_)
            go_wp2
            refine hK _ _ ?_ ?_
            · have HMa := HM7.alloc (.cells #[.string x.name] 9)
              have hb1 : (Blk pb 81 _).ok _ := HMa.at_ 1 rfl
              have hb2 : (Blk xb 38 _).ok _ := HMa.at_ 7 rfl
              exact Lib.hid ⟨by rw [Blk.cell_ hb1]; rfl, by rw [Blk.cell_ hb2]; rfl⟩
            clear hK
            refine plan_tail_put rfl rfl (fun K hK => ?_)
            refine wpList_appS strEP rfl _ _ rfl HM7 rfl x.name _ rfl rfl (by simp [namedS]; omega) ?_
            intro v' W6 HM8 HU6
            refine wpList_nil_ (hK _ _ ?_)
            clear hK HU6 HM7
            obtain ⟨A', c', rfl, _, _⟩ := Row.any_ HM8.head
            simp only [Act.put, List.setIfInBounds_toArray, List.set_cons_zero, List.set_cons_succ]
            repeat (first | (refine plan_pure (v := ?_) (a' := ?_) rfl rfl rfl ?_ ?_ ?_; rotate_left 2; (focus (intro w'; go_simp; with_reducible rfl)); (focus (simp only [Act.put, List.setIfInBounds_toArray, List.set_cons_zero, List.set_cons_succ]; rfl))) | (refine plan_load (v := ?_) (a' := ?_) rfl rfl rfl ?_ ?_ ?_; rotate_left 2; (focus (intro w' hw'; obtain ⟨q0, q1⟩ := hw'.out; clear hw'; go_simp; with_reducible rfl)); (focus (simp only [Act.put, List.setIfInBounds_toArray, List.set_cons_zero, List.set_cons_succ]; rfl))))
            have HMc := HM8.front [_]
            have hb1 : (Blk pb 81 _).ok W6 := HMc.head
            have z0 : W6.cell? ⟨pb, 0, none⟩ = some vN := by rw [Blk.cell_ hb1]; rfl
            have z1 := Blk.frozen hb1 0
            have HM9 := (HMc.blkSet 0 (.slice A' ((namedS g k m).names ++ [x.name]).length c'))
            clear hb1 HMc HM8
            generalize ((namedS g k m).names ++ [x.name]).length = nl at *
            refine plan_tail rfl (fun K hK => ?_)
            go_wp2
            refine plan_done ?_
            clear z0 z1
            go_wp2
            have hnm : (namedS g k m).names ++ [x.name] = (namedS g (k + 1) (mput m x.name (k : Int))).names := by unfold namedS; rw [hT.out]; simp
            rw [hnm] at HM9
            have HM10 : Mem none_ w (([Blk pb 81 ((namedV mb vU (.slice (some ⟨sb, 0, none⟩) g.length g.length) (.slice A' nl c') g.length).cells (namedS g (k + 1) (mput m x.name (k : Int)))), IRow (namedV mb vU (.slice (some ⟨sb, 0, none⟩) g.length g.length) (.slice A' nl c') g.length).vS (namedS g (k + 1) (mput m x.name (k : Int))).states] ++ PlanF (namedV mb vU (.slice (some ⟨sb, 0, none⟩) g.length g.length) (.slice A' nl c') g.length) (namedS g (k + 1) (mput m x.name (k : Int)))) ++ [Blk w.heap.size 29 #[GV, .slice (some ⟨gb, go, none⟩) g.length c]]) (W6.setCell ⟨pb, 0, none⟩ (.slice A' nl c')) := HM9.sel [0, 2, 1, 3, 4, 5, 6, 8] (by decide)
            go_roundw
            case rel => exact ⟨k + 1, mput m x.name (k : Int), .slice A' nl c', by omega, by go_num, HA2, HM10.shut_⟩
            case measure => simp [intOf]; omega
        · have e : k = g.length := by omega
          subst e
          have hA1 := HA.out
          rw [List.drop_length] at hA1
          have hAt : Hid (atRun [] 0 g = some m) := Lib.hid hA1.symm
          clear hA1 HA hlt hk
          have hgc : (Blk w.heap.size 29 _).ok wr := HM.at_ 1 rfl
          have c1 : wr.cell? ⟨w.heap.size, 1, none⟩ = some (.slice A g.length c) := by rw [Blk.cell_ hgc]; rfl
          clear hgc
          have HM2 : Mem none_ w [PlanC pb (edgeV mb vU (.slice (some ⟨sb, 0, none⟩) g.length g.length) vN (.slice none 0 0) (.slice none 0 0) [] [] (List.replicate g.length (.slice none 0 0))) (edgeS g m [] (List.replicate g.length [])), Blk w.heap.size 29 #[GV, .slice A g.length c]] wr := by
            have e1 : namedS g g.length m = edgeS g m [] (List.replicate g.length []) := by unfold namedS edgeS; rw [List.take_length]; rfl
            rw [← e1]; exact HM
          clear HM
          obtain ⟨wo, rfl⟩ : ∃ wo : World, wo = wr := ⟨_, rfl⟩
          go_wp2
          clear c1
          go_loopw [70] (fun v70 wr => ∃ (k : Nat) (E : List (List Int × List Int)) (vE vB : Value) (es bs us : List Value), k ≤ g.length ∧ v70 = .int .i64 k ∧ Hid (edRun m g.length k E (g.drop k) = edRun m g.length 0 [] g) ∧ Hid (E.length = k) ∧ AllR g.length (E.map (·.1)) ∧ AllR g.length (E.map (·.2)) ∧ LenB 50000 (E.map (·.1)) ∧ LenB 50000 (E.map (·.2)) ∧
            Mem none_ w [PlanC pb (edgeV mb vU (.slice (some ⟨sb, 0, none⟩) g.length g.length) vN vE vB es bs us) (edgeS g m E (usRun 0 (List.replicate g.length []) (E.map (·.1)))), Blk w.heap.size 29 #[GV, .slice A g.length c]] wr) (fun v70 _ => g.length - (intOf v70).toNat)
          case atStart => exact ⟨0, [], _, _, _, _, _, Nat.zero_le _, rfl, by unfold Hid; rfl, by unfold Hid; rfl, fun l h => (by cases h), fun l h => (by cases h), fun l h => (by cases h), fun l h => (by cases h), HM2⟩
          case round =>
            clear HM2
            obtain ⟨k, E, vE, vB, es, bs, us, hk, rfl, HE, HEl, hR1, hR2, hL1, hL2, HM⟩ := hrel
            by_cases hlt : k < g.length
            · have hlt' : decide ((k : Int) < (g.length : Int)) = true := decide_eq_true (by omega)
              obtain ⟨gb, go, kd, sv, cA, cn, cc, av, im, ph, pr, si, ig, rfl, hsv, hav, hcell⟩ := (hG.pure HM.mu).cells hlt
              obtain ⟨sA, sc, rfl, sl1, sl2⟩ := Sl.any_ hsv
              obtain ⟨aA, ac, rfl, al1, al2⟩ := Sl.any_ hav
              have x0 := hcell 0 _ rfl
              rw [Nat.add_zero] at x0
              have x1 := hcell 1 _ rfl
              have x2 := hcell 2 _ rfl
              have x3 := hcell 3 _ rfl
              have x4 := hcell 4 _ rfl
              have x5 := hcell 5 _ rfl
              have x6 := hcell 6 _ rfl
              have x7 := hcell 7 _ rfl
              have x8 := hcell 8 _ rfl
              have x9 := hcell 9 _ rfl
              clear hcell
              have HMx := (HM.box #[.string g[k].name, .int .i64 kd, .slice sA g[k].src.length sc, .slice cA cn cc, .slice aA g[k].aft.length ac, .string im, .bool ph, .bool pr, .bool si, .bool ig] 38).drew
              have hE1 := HE.out
              rw [List.drop_eq_getElem_cons hlt, edRun] at hE1
              have hLx := hL g[k] (List.getElem_mem hlt)
              have hsx := hsv.pure (((Mut.refl _ wr).alloc (.cells #[.string g[k].name, .int .i64 kd, .slice sA g[k].src.length sc, .slice cA cn cc, .slice aA g[k].aft.length ac, .string im, .bool ph, .bool pr, .bool si, .bool ig] 38)).drew)
              have hax := hav.pure (((Mut.refl _ wr).alloc (.cells #[.string g[k].name, .int .i64 kd, .slice sA g[k].src.length sc, .slice cA cn cc, .slice aA g[k].aft.length ac, .string im, .bool ph, .bool pr, .bool si, .bool ig] 38)).drew)
              go_wp2
              clear x0 x1 x2 x3 x4 x5 x6 x7 x8 x9 hsv hav sl1 sl2 al1 al2 HM
              generalize g[k] = x at *
              refine wp_plan [7] (S := fun w' => w' = World.drew _) [(.pure, 0), (.pure, 1), (.pure, 2), (.load, 3), (.pure, 4), (.load, 5), (.pure, 6), (.tail, 7), (.pure, 8), (.pure, 9), (.pure, 10), (.pure, 11), (.pure, 12)] (by kernel_rfl) rfl (by kernel_rfl) rfl (fun _ _ _ _ _ h => h) rfl ?_
              have hXb : (Blk wr.heap.size 38 _).ok _ := HMx.head
              have hP : PlanR pb _ _ _ := PlanC.reads (HMx.tail).head
              generalize wr.heap.size = xb at *
              generalize World.drew _ = W4 at *
              have y0 : W4.cell? ⟨xb, 2, none⟩ = some (.slice sA x.src.length sc) := by rw [Blk.cell_ hXb]; rfl
              have y1 : W4.cell? ⟨pb, 1, none⟩ = some (.map (some mb)) := hP.c1
              have hpm : (MapC mb Value.string (Value.int .i64) m).ok W4 := hP.mp
              clear hXb hP
              repeat (first | (refine plan_pure (v := ?_) (a' := ?_) rfl rfl rfl ?_ ?_ ?_; rotate_left 2; (focus (intro w'; go_simp; with_reducible rfl)); (focus (simp only [Act.put, List.setIfInBounds_toArray, List.set_cons_zero, List.set_cons_succ]; rfl))) | (refine plan_load (v := ?_) (a' := ?_) rfl rfl rfl ?_ ?_ ?_; rotate_left 2; (focus (intro w' hw'; rw [hw']; go_simp; with_reducible rfl)); (focus (simp only [Act.put, List.setIfInBounds_toArray, List.set_cons_zero, List.set_cons_succ]; rfl))))
              refine plan_tail rfl (fun K hK => ?_)
              clear y0 y1
              go_wp2_with (go_at_call 54; refine (places_one _ _ (k : Int) _ hpm hsx (by omega)).mono ?_; rintro e w1 ⟨va, rfl, HMa⟩)
              have HMy := (HMx.got HMa).drew
              have hax1 := hax.pure (HMa.mu.drew)
              clear HMx hax hsx hpm
              have hpin : ∀ (ahead : Int) (l : List ByteArray), l.length ≤ 50000 → ∀ a, placesOf m ahead l = some a → InR g.length a ∧ (∀ y, y ∈ a → y < ahead) ∧ a.length ≤ 50000 := fun ahead l hl a ha => by
                have hmr := atRun_in g (i := 0) (fun k v h => by cases h) hAt.out
                rw [Nat.zero_add] at hmr
                have := placesOf_in hmr ha
                exact ⟨this.1, this.2, by rw [places_len ha]; exact hl⟩
              have hpa := Lib.hid (hpin (k : Int) x.src hLx.1)
              have hpb := Lib.hid (hpin (g.length : Int) x.aft hLx.2)
              clear hpin
              have HE2 := Lib.hid hE1
              clear hE1 HE
              generalize placesOf m (k : Int) x.src = oa at *
              repeat (first | (refine plan_pure (v := ?_) (a' := ?_) rfl rfl rfl ?_ ?_ ?_; rotate_left 2; (focus (intro w'; go_simp; with_reducible rfl)); (focus (simp only [Act.put, List.setIfInBounds_toArray, List.set_cons_zero, List.set_cons_succ]; rfl))) | (refine plan_load (v := ?_) (a' := ?_) rfl rfl rfl ?_ ?_ ?_; rotate_left 2; (focus (intro w' hw'; rw [hw']; go_simp; with_reducible rfl)); (focus (simp only [Act.put, List.setIfInBounds_toArray, List.set_cons_zero, List.set_cons_succ]; rfl))))
              refine plan_done ?_
              obtain ⟨A1, c1, rfl, _, _⟩ := Row.any_ (HMy.at_ 0 rfl)
              go_wp2
              refine wp_plan [7] (S := fun w' => w' = World.drew _) [(.pure, 0), (.pure, 1), (.pure, 2), (.load, 3), (.pure, 4), (.load, 5), (.pure, 6), (.tail, 7), (.pure, 8), (.pure, 9), (.pure, 10), (.pure, 11), (.pure, 12)] (by kernel_rfl) rfl (by kernel_rfl) rfl (fun _ _ _ _ _ h => h) rfl ?_
              have hXb : (Blk xb 38 _).ok _ := HMy.at_ 1 rfl
              have hP : PlanR pb _ _ _ := PlanC.reads (HMy.at_ 2 rfl)
              generalize World.drew _ = W5 at *
              have y0 : W5.cell? ⟨xb, 4, none⟩ = some (.slice aA x.aft.length ac) := by rw [Blk.cell_ hXb]; rfl
              have y1 : W5.cell? ⟨pb, 1, none⟩ = some (.map (some mb)) := hP.c1
              have hpm : (MapC mb Value.string (Value.int .i64) m).ok W5 := hP.mp
              clear hXb hP
              repeat (first | (refine plan_pure (v := ?_) (a' := ?_) rfl rfl rfl ?_ ?_ ?_; rotate_left 2; (focus (intro w'; go_simp; with_reducible rfl)); (focus (simp only [Act.put, List.setIfInBounds_toArray, List.set_cons_zero, List.set_cons_succ]; rfl))) | (refine plan_load (v := ?_) (a' := ?_) rfl rfl rfl ?_ ?_ ?_; rotate_left 2; (focus (intro w' hw'; rw [hw']; go_simp; with_reducible rfl)); (focus (simp only [Act.put, List.setIfInBounds_toArray, List.set_cons_zero, List.set_cons_succ]; rfl))))
              refine plan_tail rfl (fun K hK => ?_)
              clear y0 y1
              go_wp2_with (go_at_call 54; refine (places_one _ _ (g.length : Int) _ hpm hax1 (by omega)).mono ?_; rintro e w2 ⟨vb, rfl, HMb⟩)
              have HMz := HMy.got HMb
              clear HMy hax1 hpm HMa HMb
              generalize placesOf m (g.length : Int) x.aft = ob at *
              repeat (first | (refine plan_pure (v := ?_) (a' := ?_) rfl rfl rfl ?_ ?_ ?_; rotate_left 2; (focus (intro w'; go_simp; with_reducible rfl)); (focus (simp only [Act.put, List.setIfInBounds_toArray, List.set_cons_zero, List.set_cons_succ]; rfl))) | (refine plan_load (v := ?_) (a' := ?_) rfl rfl rfl ?_ ?_ ?_; rotate_left 2; (focus (intro w' hw'; rw [hw']; go_simp; with_reducible rfl)); (focus (simp only [Act.put, List.setIfInBounds_toArray, List.set_cons_zero, List.set_cons_succ]; rfl))))
              refine plan_done ?_
              obtain ⟨A2, c2, rfl, _, _⟩ := Row.any_ (HMz.at_ 0 rfl)
              cases oa with
              | none =>
                have hN : buildOf g = none := by unfold buildOf; rw [if_neg hbig, hAt.out]; simp only; rw [← HE2.out]
                have HN := Lib.hid hN
                clear hN HE2
                cases ob with
                | none =>
                  go_wp2
                  go_ret
                  exact ⟨fun _ => ⟨rfl, HMz.sel [] (by decide)⟩, fun s h => by rw [HN.out] at h; cases h⟩
                | some b =>
                  go_wp2
                  go_ret
                  exact ⟨fun _ => ⟨rfl, HMz.sel [] (by decide)⟩, fun s h => by rw [HN.out] at h; cases h⟩
              | some a =>
                cases ob with
                | none =>
                  have hN : buildOf g = none := by unfold buildOf; rw [if_neg hbig, hAt.out]; simp only; rw [← HE2.out]
                  have HN := Lib.hid hN
                  clear hN HE2
                  go_wp2
                  go_ret
                  exact ⟨fun _ => ⟨rfl, HMz.sel [] (by decide)⟩, fun s h => by rw [HN.out] at h; cases h⟩
                | some b =>
                  have HE3 : Hid (edRun m g.length (k + 1) (E ++ [(a, b)]) (g.drop (k + 1)) = edRun m g.length 0 [] g) := Lib.hid HE2.out
                  obtain ⟨ha1, ha2, ha3⟩ := hpa.out a rfl
                  obtain ⟨hb1, hb2, hb3⟩ := hpb.out b rfl
                  clear HE2 hpa hpb
                  simp only [Option.isSome_some, Option.getD_some] at HMz ⊢
                  go_wp2
                  have HP0 : Mem none_ w [PlanC pb _ _, IRow (.slice A1 a.length c1) a, IRow (.slice A2 b.length c2) b, Blk w.heap.size 29 _] _ := HMz.drew.sel [3, 1, 0, 4] (by decide)
                  have HP1 : Mem none_ w [Many (NestC vE es (E.map (·.1))), Many (NestC vB bs (E.map (·.2))), Blk pb 81 _, IRow _ _, StrRow _ _, MapC mb Value.string (Value.int .i64) m, Many (NestC vU us _), IRow (.slice A1 a.length c1) a, IRow (.slice A2 b.length c2) b, Blk w.heap.size 29 _] _ := HP0.open_.sel [4, 5, 0, 1, 2, 3, 6, 7, 8, 9] (by decide)
                  have HP2 := (HP1.nestSplit.front [_, _]).nestSplit
                  have HP3 : Mem none_ w (Row 78 1 vE _ es :: [Row 78 1 vB _ bs, Many (List.zipWith IRow es _), Many (List.zipWith IRow bs _), Blk pb 81 _, IRow _ _, StrRow _ _, MapC mb Value.string (Value.int .i64) m, Many (NestC vU us _), IRow (.slice A1 a.length c1) a, IRow (.slice A2 b.length c2) b, Blk w.heap.size 29 _]) _ := HP2.sel [2, 0, 3, 1, 4, 5, 6, 7, 8, 9, 10, 11] (by decide)
                  clear HP0 HP1 HP2 HMz
                  have hSF : ∀ (F : List Chunk), F[3]? = some (Blk pb 81 ((edgeV mb vU (.slice (some ⟨sb, 0, none⟩) g.length g.length) vN vE vB es bs us).cells (edgeS g m E (usRun 0 (List.replicate g.length []) (E.map (·.1)))))) → ∀ cs W', Mem none_ w (cs ++ F) W' → Hid (W'.cell? ⟨pb, 2, none⟩ = some vE ∧ W'.cell? ⟨pb, 3, none⟩ = some vB) := fun F hF cs W' h => by
                    have h2 : (Blk pb 81 _).ok W' := (Mem.drop h).at_ 3 hF
                    exact Lib.hid ⟨by rw [Blk.cell_ h2]; rfl, by rw [Blk.cell_ h2]; rfl⟩
                  refine lf_start (fun w' => Hid (w'.cell? ⟨pb, 2, none⟩ = some vE ∧ w'.cell? ⟨pb, 3, none⟩ = some vB)) [15, 18, 21] 22 (by kernel_rfl) rfl (by kernel_rfl) (hSF _ rfl [_] _ HP3) ?_
                  generalize World.drew _ = W6 at *
                  refine lf_pre [(.pure, 0), (.pure, 1), (.pure, 2), (.pure, 3), (.pure, 4), (.load, 5), (.pure, 6), (.pure, 9), (.pure, 10), (.pure, 11), (.load, 12), (.pure, 13)] [13, 12, 11, 10, 9, 6, 5, 4, 3, 2, 1, 0] 10 rfl (by kernel_rfl) (fun _ _ _ _ _ h => h) (hSF _ rfl [_] _ HP3) ?_
                  repeat (first | (refine pre_pure (v := ?_) (a' := ?_) rfl rfl rfl ?_ ?_ ?_; rotate_left 2; (focus (intro w'; go_simp; with_reducible rfl)); (focus (simp only [Act.put, List.setIfInBounds_toArray, List.set_cons_zero, List.set_cons_succ]; rfl))) | (refine pre_load (v := ?_) (a' := ?_) rfl rfl rfl ?_ ?_ ?_; rotate_left 2; (focus (intro w' hw'; obtain ⟨q0, q1⟩ := hw'.out; clear hw'; go_simp; with_reducible rfl)); (focus (simp only [Act.put, List.setIfInBounds_toArray, List.set_cons_zero, List.set_cons_succ]; rfl))))
                  refine pre_done ?_
                  refine lf_name (fun A0 hA0 => ?_)
                  refine alloc_app_alloc (k := 7) (fun A => A.tmps.size = 155 ∧ A.eval (.tmp 108) = vE ∧ A.eval (.tmp 109) = .slice A1 a.length c1 ∧ A.eval (.tmp 116) = .slice A2 b.length c2) 7 8 14 110 111 117 islE (.slice A1 a.length c1) (.slice A2 b.length c2) (.tmp 108)
                    (by kernel_rfl) (by kernel_rfl) (by kernel_rfl) (by kernel_rfl) (by kernel_rfl) (by kernel_rfl) (by kernel_rfl) (by decide) (by decide) (by decide) rfl rfl rfl rfl rfl rfl (fun _ => rfl) rfl (fun _ => rfl) rfl
                    (fun A w he => ?_) (fun A w he => ?_) ?_ (fun A N v he hN => ?_) (fun A he => he.2.1) (fun A he => by rw [he.1]; decide) (hSF _ rfl) rfl ?_ HP3 (fun b1 b3 v' W' HP4 => ?_)
                  · obtain ⟨_, _, e1, _⟩ := he
                    exact build1_run e1 _ rfl
                  · obtain ⟨_, _, _, e1⟩ := he
                    exact build1_run e1 _ rfl
                  · rw [hA0.out]; exact ⟨rfl, rfl, rfl, rfl⟩
                  · obtain ⟨h1, h2, h3, h4⟩ := he
                    exact ⟨by rw [put_size]; exact h1, by rw [eval_put_ne (by omega)]; exact h2, by rw [eval_put_ne (by omega)]; exact h3, by rw [eval_put_ne (by omega)]; exact h4⟩
                  · have := HEl.out; simp; omega
                  · have hA1 := hA0.out
                    subst hA1
                    refine lf_one_put 15 (by kernel_rfl) rfl rfl (fun K hK => ?_)
                    have HP5 := HP4.front [_, _, _]
                    have c3 : W'.cell? ⟨b3, 0, none⟩ = some (.slice A2 b.length c2) := by
                      have h3 : (Blk b3 78 _).ok W' := HP4.at_ 2 rfl
                      rw [Blk.cell_ h3]; rfl
                    refine wpList_app islE rfl _ _ rfl HP5 rfl ⟨b3, 0, none⟩ 1 1 [.slice A2 b.length c2] rfl rfl (fun j u hu => ?_) (fun u hu => by rw [List.mem_singleton.1 hu]; rfl) ?_ ?_
                    · cases j with
                      | zero => cases hu; rw [addr_add0]; exact c3
                      | succ j => simp at hu
                    · have := HEl.out; simp; omega
                    intro v2 W7 HP6 _ _
                    refine wpList_nil_ (hK _ _ (fun h => by cases h) ?_)
                    clear hK HP4 HP5 c3 hA0
                    simp only [Act.put, List.setIfInBounds_toArray, List.set_cons_zero, List.set_cons_succ]
                    obtain ⟨AE, cE, rfl, _, _⟩ := Row.any_ (HP6.at_ 1 rfl)
                    obtain ⟨AB, cB, rfl, _, _⟩ := Row.any_ (HP6.at_ 0 rfl)
                    have HP7 : Mem none_ w (Blk pb 81 _ :: [Row 78 1 (.slice AE _ cE) _ (es ++ [.slice A1 a.length c1]), Row 78 1 (.slice AB _ cB) _ (bs ++ [.slice A2 b.length c2]), Many (List.zipWith IRow es _), Many (List.zipWith IRow bs _), IRow _ _, StrRow _ _, MapC mb Value.string (Value.int .i64) m, Many (NestC vU us _), IRow (.slice A1 a.length c1) a, IRow (.slice A2 b.length c2) b, Blk w.heap.size 29 _]) _ := HP6.sel [6, 1, 0, 4, 5, 7, 8, 9, 10, 11, 12, 13] (by decide)
                    clear HP6 hSF HP3
                    have hEL := HEl.out
                    simp only [List.length_map, hEL] at HP7 ⊢
                    have hbp := HP7.head
                    have z2 : W7.cell? ⟨pb, 2, none⟩ = some vE := by rw [Blk.cell_ hbp]; rfl
                    have z3 : W7.cell? ⟨pb, 3, none⟩ = some vB := by rw [Blk.cell_ hbp]; rfl
                    have z4 := Blk.frozen hbp 2
                    have z5 := Blk.frozen hbp 3
                    clear hbp hEL
                    have HP8 := (HP7.blkSet 2 (.slice AE (k + 1) cE)).blkSet 3 (.slice AB (k + 1) cB)
                    clear HP7
                    refine lf_one 16 (by kernel_rfl) rfl (fun K hK => ?_)
                    go_wp2
                    refine hK _ _ (fun _ h => h) ?_
                    clear hK
                    refine lf_one 17 (by kernel_rfl) rfl (fun K hK => ?_)
                    go_wp2
                    refine hK _ _ (fun _ h => h) ?_
                    clear hK
                    refine lf_one 18 (by kernel_rfl) rfl (fun K hK => ?_)
                    go_wp2
                    refine hK _ _ (fun h => by cases h) ?_
                    clear hK
                    refine lf_one 19 (by kernel_rfl) rfl (fun K hK => ?_)
                    go_wp2
                    refine hK _ _ (fun _ h => h) ?_
                    clear hK
                    refine lf_one 20 (by kernel_rfl) rfl (fun K hK => ?_)
                    go_wp2
                    refine hK _ _ (fun _ h => h) ?_
                    clear hK
                    refine lf_one 21 (by kernel_rfl) rfl (fun K hK => ?_)
                    go_wp2
                    refine hK _ _ (fun h => by cases h) ?_
                    clear hK z2 z3 z4 z5
                    refine lf_end (by kernel_rfl) ?_
                    generalize World.setCell _ _ _ = W8 at *
                    have hB1 : Mem none_ w (Many (List.zipWith IRow bs _) :: IRow (.slice A2 b.length c2) b :: [Row 78 1 (.slice AB (k + 1) cB) (k + 1) (bs ++ [.slice A2 b.length c2]), Many (NestC vU us _), IRow (.slice A1 a.length c1) a, Blk pb 81 _, Row 78 1 (.slice AE (k + 1) cE) (k + 1) (es ++ [.slice A1 a.length c1]), Many (List.zipWith IRow es _), IRow _ _, StrRow _ _, MapC mb Value.string (Value.int .i64) m, Blk w.heap.size 29 _]) W8 := HP8.sel [4, 10, 2, 8, 9, 0, 1, 3, 5, 6, 7, 11] (by decide)
                    have hBl : bs.length = (E.map (·.2)).length := by
                      have h2 : (Row 78 1 (.slice AB (k + 1) cB) (k + 1) (bs ++ [.slice A2 b.length c2])).ok W8 := hB1.at_ 2 rfl
                      have := h2.1
                      have h3 := HEl.out
                      simp at this ⊢; omega
                    have hEs : es.length = (E.map (·.1)).length := by
                      have h2 : (Row 78 1 (.slice AE (k + 1) cE) (k + 1) (es ++ [.slice A1 a.length c1])).ok W8 := hB1.at_ 6 rfl
                      have := h2.1
                      have h3 := HEl.out
                      simp at this ⊢; omega
                    have eB : ((E ++ [(a, b)]).map (·.2)).length = k + 1 := by have := HEl.out; simp; omega
                    have eE : ((E ++ [(a, b)]).map (·.1)).length = k + 1 := by have := HEl.out; simp; omega
                    have mB : (E ++ [(a, b)]).map (·.2) = E.map (·.2) ++ [b] := by simp
                    have mE : (E ++ [(a, b)]).map (·.1) = E.map (·.1) ++ [a] := by simp
                    have hB2 := hB1.zipAdd hBl
                    rw [← mB] at hB2
                    have hB3 := Mem.nestJoin' eB (hB2.front [_])
                    have hU0 : (usRun 0 (List.replicate g.length []) (E.map (·.1))).length = g.length := by rw [usRun_length, List.length_replicate]
                    have hB4 := (hB3.front [_]).open_
                    have hB5 : Mem none_ w ([Row 78 1 vU (usRun 0 (List.replicate g.length []) (E.map (·.1))).length us, Many (NestC (.slice AB (k + 1) cB) (bs ++ [.slice A2 b.length c2]) ((E ++ [(a, b)]).map (·.2))), IRow (.slice A1 a.length c1) a, Blk pb 81 _, Row 78 1 (.slice AE (k + 1) cE) (k + 1) (es ++ [.slice A1 a.length c1]), Many (List.zipWith IRow es (E.map (·.1))), IRow _ _, StrRow _ _, MapC mb Value.string (Value.int .i64) m, Blk w.heap.size 29 _] ++ List.zipWith IRow us (usRun 0 (List.replicate g.length []) (E.map (·.1)))) W8 := hB4.perm (List.perm_append_comm.cons _)
                    have hUl : us.length = (usRun 0 (List.replicate g.length []) (E.map (·.1))).length := by
                      have h2 : (Row 78 1 vU (usRun 0 (List.replicate g.length []) (E.map (·.1))).length us).ok W8 := hB5.at_ 0 rfl
                      simpa using h2.1
                    rw [hU0] at hB5
                    obtain ⟨gU, cU, rfl, nU1, nU2⟩ := Row.at_ (hB5.at_ 0 rfl) (by omega)
                    have hLU : LenB (50000 * k) (usRun 0 (List.replicate g.length []) (E.map (·.1))) := by
                      have := usRun_len (E.map (·.1)) (i := 0) (B := 0) (us := List.replicate g.length []) hL1 (fun l hl => by rw [List.mem_replicate] at hl; rw [hl.2]; simp)
                      have h3 := HEl.out
                      intro l hl
                      have := this l hl
                      simp at this
                      rw [h3] at this
                      omega
                    clear hB1 hB2 hB3 hB4 HP8 nU2
                    have HU0 := Lib.hid hU0
                    have HeB := Lib.hid eB
                    have HeE := Lib.hid eE
                    have HmB := Lib.hid mB
                    have HmE := Lib.hid mE
                    have HhEs := Lib.hid hEs
                    have HUl := Lib.hid hUl
                    clear hU0 eB eE mB mE hEs hBl
                    generalize hUg : usRun 0 (List.replicate g.length []) (E.map (·.1)) = U0 at *
                    have HUg := Lib.hid hUg
                    clear hUg
                    go_wp2
                    go_loopw [125] (fun v125 wr => ∃ (j : Nat) (us' : List Value) (U' : List (List Int)), j ≤ a.length ∧ v125 = .int .i64 j ∧ Hid (us'.length = U'.length) ∧ Hid (U'.length = g.length) ∧ LenB (50000 * k + j) U' ∧ Hid (pushAll (k : Int) U' (a.drop j) = pushAll (k : Int) U0 a) ∧
                      Mem none_ w ([Row 78 1 (.slice (some ⟨gU, 0, none⟩) g.length cU) g.length us', Many (NestC (.slice AB (k + 1) cB) (bs ++ [.slice A2 b.length c2]) ((E ++ [(a, b)]).map (·.2))), IRow (.slice A1 a.length c1) a, Blk pb 81 ((edgeV mb (.slice (some ⟨gU, 0, none⟩) g.length cU) (.slice (some ⟨sb, 0, none⟩) g.length g.length) vN (.slice AE (k + 1) cE) (.slice AB (k + 1) cB) [] [] []).cells (edgeS g m [] [])), Row 78 1 (.slice AE (k + 1) cE) (k + 1) (es ++ [.slice A1 a.length c1]), Many (List.zipWith IRow es (E.map (·.1))), IRow (.slice (some ⟨sb, 0, none⟩) g.length g.length) (List.replicate g.length 0), StrRow vN (g.map (·.name)), MapC mb Value.string (Value.int .i64) m, Blk w.heap.size 29 #[GV, Value.slice (some ⟨gb, go, none⟩) g.length c]] ++ List.zipWith IRow us' U') wr) (fun i _ => a.length - (intOf i).toNat)
                    case atStart => exact ⟨0, us, U0, Nat.zero_le _, rfl, HUl, HU0, hLU, by unfold Hid; rfl, hB5⟩
                    case round =>
                      clear hB5 hLU HUl
                      obtain ⟨j, us', U', hj, rfl, hvl0, hnl, hLB, HPU, HM⟩ := hrel
                      by_cases hjl : j < a.length
                      · have hn' := hnl.out
                        have hvl := hvl0.out
                        obtain ⟨g7, c7', e7, _, _⟩ := Row.at_ (HM.at_ 2 rfl) (by omega)
                        cases e7
                        have hx0 : wr.cell? ⟨g7, j, none⟩ = some (.int .i64 a[j]) := Row.cell (HM.at_ 2 rfl) (ints_get hjl)
                        have hxr := ha1 _ (List.getElem_mem hjl)
                        have HPd := HPU.out
                        rw [List.drop_eq_getElem_cons hjl] at HPd
                        have HP1 : Hid (pushAll (k : Int) (push (k : Int) U' a[j]) (a.drop (j + 1)) = pushAll (k : Int) U0 a) := HPd
                        clear HPd HPU
                        have hLp := push_len (k : Int) a[j] hLB
                        have hNp := push_length (k : Int) U' a[j]
                        generalize a[j] = y at *
                        obtain ⟨y, rfl⟩ : ∃ m : Nat, y = (m : Int) := ⟨y.toNat, by omega⟩
                        have hxn : y < U'.length := by omega
                        have hxl : y < g.length := by omega
                        have hxv : y < us'.length := by omega
                        have hx2 : decide ((y : Int) < (g.length : Int)) = true := decide_eq_true (by omega)
                        go_wp2
                        clear hx0
                        have HMd := HM.drew
                        have ho := nest_cell (HMd.at_ 0 rfl) (k := y) hxv
                        have hk0 := Mem.nestAt [_, _, _, _, _, _, _, _, _, _] HMd (k := y) hxn hxv
                        obtain ⟨Ak, ck, ek, _, _⟩ := Row.any_ hk0
                        have hkl : U'[y].length ≤ 50000 * k + j := hLB _ (List.getElem_mem hxn)
                        have HMo := Mem.nestOut' [_, _, _, _, _, _, _, _, _, _] HMd hvl hxn
                        have hpush : push (k : Int) U' (y : Int) = U'.set y (U'[y] ++ [(k : Int)]) := by
                          unfold push
                          rw [Int.toNat_natCast, List.getD_eq_getElem?_getD, List.getElem?_eq_getElem hxn]; rfl
                        rw [hpush] at HP1 hLp hNp
                        rw [ek] at ho HMo
                        have hbp : (Blk pb 81 _).ok _ := HMd.at_ 3 rfl
                        have hS0 : Hid ((World.drew wr).cell? ⟨pb, 4, none⟩ = some (.slice (some ⟨gU, 0, none⟩) g.length cU) ∧ (World.drew wr).cell? ⟨gU, y, none⟩ = some (.slice Ak U'[y].length ck)) := Lib.hid ⟨by rw [Blk.cell_ hbp]; rfl, ho⟩
                        clear hbp ho hk0 hpush hLB hxr HM HMd
                        refine wp_plan [16] (S := fun w' => Hid (w'.cell? ⟨pb, 4, none⟩ = some (.slice (some ⟨gU, 0, none⟩) g.length cU) ∧ w'.cell? ⟨gU, y, none⟩ = some (.slice Ak U'[y].length ck))) [(.pure, 0), (.pure, 1), (.pure, 2), (.load, 3), (.pure, 4), (.pure, 5), (.pure, 6), (.pure, 7), (.load, 8), (.pure, 9), (.pure, 10), (.load, 11), (.pure, 12), (.eff, 13), (.eff, 14), (.pure, 15), (.tail, 16)] (by kernel_rfl) rfl (by kernel_rfl) rfl (fun _ _ _ _ _ h => h) hS0 ?_
                        generalize World.drew wr = W9 at *
                        repeat (first | (refine plan_pure (v := ?_) (a' := ?_) rfl rfl rfl ?_ ?_ ?_; rotate_left 2; (focus (intro w'; go_simp; with_reducible rfl)); (focus (simp only [Act.put, List.setIfInBounds_toArray, List.set_cons_zero, List.set_cons_succ]; rfl))) | (refine plan_load (v := ?_) (a' := ?_) rfl rfl rfl ?_ ?_ ?_; rotate_left 2; (focus (intro w' hw'; obtain ⟨q0, q1⟩ := hw'.out; clear hw'; go_simp; with_reducible rfl)); (focus (simp only [Act.put, List.setIfInBounds_toArray, List.set_cons_zero, List.set_cons_succ]; rfl))))
                        refine plan_eff rfl (fun K hK => ?_)
                        go_wp2
                        have HMo1 := HMo.alloc (.cells #[.int .i64 (k : Int)] 3)
                        have hSp : ∀ (cs : List Chunk) (c0 : Chunk) W, Mem none_ w (c0 :: ([Row 78 1 (.slice (some ⟨gU, 0, none⟩) g.length cU) g.length us', Many (NestC (.slice AB (k + 1) cB) (bs ++ [.slice A2 b.length c2]) ((E ++ [(a, b)]).map (·.2))), IRow (.slice (some ⟨g7, 0, none⟩) a.length c1) a, Blk pb 81 ((edgeV mb (.slice (some ⟨gU, 0, none⟩) g.length cU) (.slice (some ⟨sb, 0, none⟩) g.length g.length) vN (.slice AE (k + 1) cE) (.slice AB (k + 1) cB) [] [] []).cells (edgeS g m [] []))] ++ cs)) W → Hid (W.cell? ⟨pb, 4, none⟩ = some (.slice (some ⟨gU, 0, none⟩) g.length cU) ∧ W.cell? ⟨gU, y, none⟩ = some (.slice Ak U'[y].length ck)) := fun cs c0 W h => by
                          have h2 : (Blk pb 81 _).ok W := h.at_ 4 rfl
                          have h3 := nest_cell (h.at_ 1 rfl) (k := y) hxv
                          rw [ek] at h3
                          exact Lib.hid ⟨by rw [Blk.cell_ h2]; rfl, h3⟩
                        refine hK _ _ (hSp _ _ _ HMo1) ?_
                        clear hK HMo1
                        refine plan_eff_put rfl rfl (fun K hK => ?_)
                        refine wpList_appI intE rfl _ _ rfl HMo rfl (k : Int) _ rfl rfl (by omega) ?_
                        intro v' w' HMa HUa
                        refine wpList_nil_ (hK _ _ (hSp _ _ _ HMa) ?_)
                        obtain ⟨Av, cv, ev, _, _⟩ := Row.any_ HMa.head
                        rw [List.length_append, List.length_singleton] at ev
                        subst ev
                        have HMb := Mem.front [_] HMa
                        have ho1 := nest_cell HMb.head (k := y) hxv
                        have ho2 := Row.frozen HMb.head y
                        rw [ek] at ho1
                        have HMc := Mem.back [_] (HMb.rowSet (j := y) (by omega) (.slice Av (U'[y].length + 1) cv))
                        have HMe := Mem.nestIn' [_, _, _, _, _, _, _, _, _, _] HMc hvl hxn
                        clear hK HUa HMa HMb HMc HMo
                        simp only [Act.put, List.setIfInBounds_toArray, List.set_cons_zero, List.set_cons_succ]
                        repeat (first | (refine plan_pure (v := ?_) (a' := ?_) rfl rfl rfl ?_ ?_ ?_; rotate_left 2; (focus (intro w'; go_simp; with_reducible rfl)); (focus (simp only [Act.put, List.setIfInBounds_toArray, List.set_cons_zero, List.set_cons_succ]; rfl))) | (refine plan_load (v := ?_) (a' := ?_) rfl rfl rfl ?_ ?_ ?_; rotate_left 2; (focus (intro w' hw'; obtain ⟨q0, q1⟩ := hw'.out; clear hw'; go_simp; with_reducible rfl)); (focus (simp only [Act.put, List.setIfInBounds_toArray, List.set_cons_zero, List.set_cons_succ]; rfl))))
                        refine plan_tail rfl (fun K hK => ?_)
                        clear hSp hS0
                        go_wp2
                        refine plan_done ?_
                        go_wp2
                        go_roundw
                        case rel => exact ⟨j + 1, us'.set y (.slice Av (U'[y].length + 1) cv), _, by omega, by go_num, by unfold Hid; rw [List.length_set, List.length_set]; exact hvl, by unfold Hid; rw [List.length_set]; exact hnl.out, hLp, HP1, HMe⟩
                        case measure => simp [intOf]; omega
                      · have e : j = a.length := by omega
                        subst e
                        have hPd := HPU.out
                        rw [List.drop_length] at hPd
                        have hPe : U' = pushAll (k : Int) U0 a := hPd
                        clear hPd HPU hLB
                        have hUU : usRun 0 (List.replicate g.length []) ((E ++ [(a, b)]).map (·.1)) = U' := by
                          rw [HmE.out, usRun_snoc, HUg.out, hPe]
                          congr 1
                          have := HEl.out
                          simp; omega
                        have hV1 := HM.perm ((List.perm_append_comm (l₁ := [_, _, _, _, _, _, _, _, _])).cons _)
                        have hV2 := Mem.nestShut hnl.out hV1
                        have hV3 : Mem none_ w (Many (List.zipWith IRow es (E.map (·.1))) :: IRow (.slice A1 a.length c1) a :: [Row 78 1 (.slice AE (k + 1) cE) (k + 1) (es ++ [.slice A1 a.length c1]), Many (NestC (.slice (some ⟨gU, 0, none⟩) g.length cU) us' U'), Many (NestC (.slice AB (k + 1) cB) (bs ++ [.slice A2 b.length c2]) ((E ++ [(a, b)]).map (·.2))), Blk pb 81 _, IRow (.slice (some ⟨sb, 0, none⟩) g.length g.length) (List.replicate g.length 0), StrRow vN (g.map (·.name)), MapC mb Value.string (Value.int .i64) m, Blk w.heap.size 29 #[GV, Value.slice (some ⟨gb, go, none⟩) g.length c]]) wr := hV2.sel [5, 2, 4, 0, 1, 3, 6, 7, 8, 9] (by decide)
                        have hV4 := hV3.zipAdd HhEs.out
                        rw [← HmE.out] at hV4
                        have hV5 := Mem.nestJoin' HeE.out (hV4.front [_])
                        have hV6 : Mem none_ w (([Blk pb 81 ((edgeV mb (.slice (some ⟨gU, 0, none⟩) g.length cU) (.slice (some ⟨sb, 0, none⟩) g.length g.length) vN (.slice AE (k + 1) cE) (.slice AB (k + 1) cB) (es ++ [.slice A1 a.length c1]) (bs ++ [.slice A2 b.length c2]) us').cells (edgeS g m (E ++ [(a, b)]) U')), IRow (.slice (some ⟨sb, 0, none⟩) g.length g.length) (List.replicate g.length 0)] ++ PlanF (edgeV mb (.slice (some ⟨gU, 0, none⟩) g.length cU) (.slice (some ⟨sb, 0, none⟩) g.length g.length) vN (.slice AE (k + 1) cE) (.slice AB (k + 1) cB) (es ++ [.slice A1 a.length c1]) (bs ++ [.slice A2 b.length c2]) us') (edgeS g m (E ++ [(a, b)]) U')) ++ [Blk w.heap.size 29 #[GV, Value.slice (some ⟨gb, go, none⟩) g.length c]]) wr := hV5.sel [3, 4, 5, 6, 0, 2, 1, 7] (by decide)
                        rw [← hUU] at hV6
                        clear hV1 hV2 hV3 hV4 hV5 HM hPe
                        have HUU := Lib.hid hUU
                        clear hUU
                        have hq1 : AllR g.length ((E ++ [(a, b)]).map (·.1)) := by
                          rw [HmE.out]; intro l hl
                          rcases List.mem_append.1 hl with hl | hl
                          · exact hR1 l hl
                          · rw [List.mem_singleton.1 hl]; exact ha1
                        have hq2 : AllR g.length ((E ++ [(a, b)]).map (·.2)) := by
                          rw [HmB.out]; intro l hl
                          rcases List.mem_append.1 hl with hl | hl
                          · exact hR2 l hl
                          · rw [List.mem_singleton.1 hl]; exact hb1
                        have hq3 : LenB 50000 ((E ++ [(a, b)]).map (·.1)) := by
                          rw [HmE.out]; intro l hl
                          rcases List.mem_append.1 hl with hl | hl
                          · exact hL1 l hl
                          · rw [List.mem_singleton.1 hl]; exact ha3
                        have hq4 : LenB 50000 ((E ++ [(a, b)]).map (·.2)) := by
                          rw [HmB.out]; intro l hl
                          rcases List.mem_append.1 hl with hl | hl
                          · exact hL2 l hl
                          · rw [List.mem_singleton.1 hl]; exact hb3
                        go_wp2
                        go_roundw
                        case rel => exact ⟨k + 1, E ++ [(a, b)], _, _, _, _, _, by omega, by go_num, HE3, by unfold Hid; have := HEl.out; simp; omega, hq1, hq2, hq3, hq4, hV6.shut_⟩
                        case measure => simp [intOf]; omega
            · have e : k = g.length := by omega
              subst e
              have hE1 := HE.out
              rw [List.drop_length] at hE1
              have hEd : edRun m g.length 0 [] g = some E := hE1.symm
              have hEL := HEl.out
              have hB : buildOf g = if loopsOf (planOf g m E) then none else some (planOf g m E) := by
                unfold buildOf
                rw [if_neg hbig, hAt.out]
                simp only
                rw [hEd]
              have hO : PlanOk (planOf g m E) := by
                refine ⟨?_, ?_, ?_, ?_, ?_, ?_, ?_, hL1, hL2⟩
                · simp [planOf]; omega
                · simp [planOf]; omega
                · simp [planOf]; omega
                · simp [planOf]; omega
                · simp [planOf]; omega
                · simpa [planOf] using hR1
                · simpa [planOf] using hR2
              have HB := Lib.hid hB
              have HO := Lib.hid hO
              clear hB hE1 HE hEd hEL HEl hR1 hR2 hL1 hL2 hlt hk hO
              have hO1 := HM.open_
              have hbp : (Blk pb 81 _).ok wr := hO1.at_ 0 rfl
              have z6 : wr.cell? ⟨pb, 6, none⟩ = some (.int .i64 0) := by rw [Blk.cell_ hbp]; rfl
              have z7 := Blk.frozen hbp 6
              have hO2 := Mem.blkSet hO1 6 (.int .i64 (g.length : Int))
              have hO3 : Mem none_ w (([Blk pb 81 ((edgeV mb vU (.slice (some ⟨sb, 0, none⟩) g.length g.length) vN vE vB es bs us).cells (planOf g m E)), IRow (.slice (some ⟨sb, 0, none⟩) g.length g.length) (List.replicate g.length 0)] ++ PlanF (edgeV mb vU (.slice (some ⟨sb, 0, none⟩) g.length g.length) vN vE vB es bs us) (planOf g m E)) ++ [Blk w.heap.size 29 #[GV, Value.slice A g.length c]]) (wr.setCell ⟨pb, 6, none⟩ (.int .i64 (g.length : Int))) := hO2
              have hO4 := hO3.shut_
              clear hO1 hO2 hO3 hbp HM
              go_wp2_with fail
              clear z6 z7
              generalize World.setCell _ _ _ = W9 at *
              have hPR : PlanR pb (edgeV mb vU (.slice (some ⟨sb, 0, none⟩) g.length g.length) vN vE vB es bs us) (planOf g m E) W9 := PlanC.reads hO4.head
              refine (loops_callsP _ _ _ _ hPR HO.out).mono ?_
              rintro e w9 ⟨rfl, HM9⟩
              have hO5 := hO4.got HM9
              clear hO4 HM9 hPR
              cases hl : loopsOf (planOf g m E) with
              | true =>
                have hB2 : buildOf g = none := by rw [HB.out, hl]; rfl
                have HB2 := Lib.hid hB2
                clear hB2 HB
                go_wp2
                go_ret
                exact ⟨fun _ => ⟨rfl, hO5.sel [] (by decide)⟩, fun s h => by rw [HB2.out] at h; cases h⟩
              | false =>
                have hB2 : buildOf g = some (planOf g m E) := by rw [HB.out, hl]; rfl
                have HB2 := Lib.hid hB2
                clear hB2 HB
                go_wp2
                go_ret
                refine ⟨fun h => by (rw [HB2.out] at h; cases h), fun s h => ?_⟩
                rw [HB2.out] at h
                cases h
                exact ⟨pb, _, rfl, HO.out, hO5.sel [0] (by decide)⟩
end Go.Proofs.Ytliglejbkpjamaa
