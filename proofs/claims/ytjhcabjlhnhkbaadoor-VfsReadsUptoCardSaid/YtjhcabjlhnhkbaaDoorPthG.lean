/-
  Layer 02 (path): the walk of Parts.
-/
import Derived.Test.YtjhcabjlhnhkbaaDoorPthE
import Derived.Test.YtjhcabjlhnhkbaaDoorPthF
import Derived.Maps.OwnIn
set_option linter.unusedVariables false
set_option linter.unusedSimpArgs false
namespace Go.Proofs.YtjhcabjlhnhkbaaDoor
open Go.RowKit Go.Shelf
attribute [local go_sem] Oper.semAt_some

section
variable {F : Fence} {nF : Nat} {P : Program} {ops : Array Oper} {rest : List Oper} {o : Oper} {a : Act} {Q : Exit → Act → World → Prop} {t e size bytes : Nat}
theorem wpListIn_app (HE : Elem P t e size bytes) (hgd : o.guard = none) (s x : Operand) (ho : o.op = .call { callee := .builtin .append, args := #[s, x], argTypes := #[t, t] })
    {fp : Nat → Prop} {w0 W : World} {G : List Chunk} {v : Value} {n : Nat} {cells : List Value} (HM : Mem fp w0 (Row e size v n cells :: G) W) (hs : a.eval s = v)
    (ad : Addr) (m c : Nat) (news : List Value) (hx : a.eval x = .slice (some ad) m c) (hl : news.length = m * size) (hnews : ∀ j u, news[j]? = some u → W.cell? (ad.add j) = some u) (h1 : ∀ u ∈ news, u.oneCell' = true)
    (hb : (n + m) * bytes ≤ 140737488355328)
    (h : ∀ v' w', Mem fp w0 (Row e size v' (n + m) (cells ++ news) :: G) w' → wpListIn F nF P ops Q rest (a.put o.dst v') w') :
    wpListIn F nF P ops Q (o :: rest) a W := by
  obtain ⟨i, z, hi, hz, h2, h3, h4⟩ := HE.inf
  have h63 : n + m ≤ maxLen := by
    have := Nat.le_mul_of_pos_right (n + m) HE.posb
    unfold maxLen
    omega
  refine wpListIn_append_own_at W hgd s x t ho 0 e i z size bytes HE.sl hi hz h2 h3 h4 HE.pos v n cells hs HM.head ad m c news hx hl hnews h1 h63 hb (Nat.zero_le _) (fun v' w' ho' hg hn hat => h v' w' ?_)
  refine HM.turn (Mut.of_grown hg) ho' (fun b hb' => ?_)
  have hb2 : v'.ownBlock = some b := hb'
  rcases hat with hat | hat
  · exact .inl (hat.symm.trans hb2)
  · rw [hat] at hb2; cases hb2; exact .inr (Nat.le_refl _)
theorem wpListIn_appT (HE : Elem P t 9 1 bytes) (hgd : o.guard = none) (s x : Operand) (ho : o.op = .call { callee := .builtin .append, args := #[s, x], argTypes := #[t, t] })
    {fp : Nat → Prop} {w0 W : World} {G : List Chunk} {v : Value} {l : List (List UInt8)} (HM : Mem fp w0 (TRow v l :: G) W) (hs : a.eval s = v)
    (y : List UInt8) (nb : Nat) (hx : a.eval x = .slice (some ⟨nb, 0, none⟩) 1 1) (hnb : nb = W.heap.size)
    (hb : (l.length + 1) * bytes ≤ 140737488355328)
    (h : ∀ v' w', Mem fp w0 (TRow v' (l ++ [y]) :: G) w' → wpListIn F nF P ops Q rest (a.put o.dst v') w') :
    wpListIn F nF P ops Q (o :: rest) a (W.alloc (.cells #[.string (ofL y)] 9)) := by
  subst hnb
  refine wpListIn_app HE hgd s x ho (HM.alloc _) hs ⟨W.heap.size, 0, none⟩ 1 1 [.string (ofL y)] hx rfl (fun j u hu => ?_) (by simp [Value.oneCell']) hb (fun v' w' hm => h v' w' ?_)
  · have hne : (W.alloc (.cells #[.string (ofL y)] 9)).heap[W.heap.size]? = some (.cells #[.string (ofL y)] 9 (0, 0)) := heap_alloc_new W _
    have : (⟨W.heap.size, 0, none⟩ : Addr).add j = ⟨W.heap.size, j, none⟩ := by unfold Addr.add; split <;> simp_all
    rw [this]
    unfold World.cell?
    rw [hne]
    simpa using hu
  · have e1 : (l ++ [y]).length = l.length + 1 := by simp
    have e2 : strs ((l ++ [y]).map ofL) = strs (l.map ofL) ++ [.string (ofL y)] := by rw [List.map_append, strs_append]; rfl
    unfold TRow
    rw [e1, e2]; exact hm
end
theorem Row.take_ {e size n c g : Nat} {cells : List Value} {w : World} (h : (Row e size (.slice (some ⟨g, 0, none⟩) n c) n cells).ok w) {k : Nat} (hk : k ≤ n) : (Row e size (.slice (some ⟨g, 0, none⟩) k c) k (cells.take (k * size))).ok w := by
  obtain ⟨h1, h2⟩ := h
  rcases h2 with ⟨e1, _⟩ | ⟨g', cap, cur, e1, hg, hh, hle, hcap, hsz, htk⟩
  · cases e1
  · cases e1
    have hm : k * size ≤ n * size := Nat.mul_le_mul_right _ hk
    refine ⟨by rw [List.length_take, h1]; exact Nat.min_eq_left hm, .inr ⟨g, c, cur, rfl, hg, hh, by omega, hcap, hsz, ?_⟩⟩
    rw [← htk, List.take_take, Nat.min_eq_left hm]
theorem Mem.takeT {fp : Nat → Prop} {w0 w : World} {F : List Chunk} {c g : Nat} {l : List (List UInt8)} (h : Mem fp w0 (TRow (.slice (some ⟨g, 0, none⟩) l.length c) l :: F) w) {k : Nat} (hk : k ≤ l.length) : Mem fp w0 (TRow (.slice (some ⟨g, 0, none⟩) k c) (l.take k) :: F) w := by
  refine h.turn (Mut.refl _ _) ?_ (fun b hb => .inl hb)
  have h2 := Row.take_ h.head hk
  have e : (l.take k).length = k := by rw [List.length_take]; omega
  unfold TRow
  rw [e, List.map_take]
  have e2 : strs ((l.map ofL).take k) = (strs (l.map ofL)).take (k * 1) := (strs_take _ _).symm
  rw [e2]; exact h2

theorem seq_calls (s : List UInt8) (w : World) :
    Calls Tryd.prog 70 #[.string (ofL s), .string ⟨#[47]⟩] w fun e w' => ∃ sb pb qb, e = .returned (.func (.func 86) #[] #[.pointer (some ⟨pb, 0, none⟩), .pointer (some ⟨sb, 0, none⟩), .pointer (some ⟨qb, 0, none⟩)]) ∧ Mem none_ w (SeqC sb pb qb s) w' := by
  have HM0 := (((Mem.start (fp := none_) w).box #[.string (ofL s)] 9).box #[.string ⟨#[47]⟩] 9).box #[.int .i64 0] 3
  simp only [World.size_alloc] at HM0
  have HM1 := HM0.sel [2, 1, 0] (by decide)
  clear HM0
  go_enter Tryd.func70, Tryd.ntmps70
  go_wp2
  go_ret
  exact ⟨_, _, _, rfl, HM1⟩
/-- What Parts keeps. -/
abbrev PartC (bo bp : Nat) (s : List UInt8) (r : Bool) (v : Value) (pre : List (List UInt8)) : List Chunk := [Blk bo 37 #[v], TRow v (pre.foldl (stepL r) []), Blk bp 9 #[.string (ofL s)]]
set_option maxRecDepth 100000 in
set_option maxHeartbeats 8000000 in
theorem pparts_calls (s : List UInt8) (w : World) (hs : s.length ≤ 1200000) :
    Calls Tryd.prog 55 #[.string (ofL s)] w fun e w' => ∃ v, e = .returned v ∧ Mem none_ w [TRow v (partsL s)] w' := by
  refine (callsIn_wide (n := 8)).1 ?_
  refine callsIn_of_wp_marks Tryd.func55 rfl trivial ?_ rfl
  simp only [Tryd.ntmps55, List.size_toArray, List.length_cons, List.length_nil, Nat.reduceAdd, Nat.reduceSub, Array.replicate_succ, Array.replicate_zero, List.push_toArray, List.append_toArray, List.nil_append, List.cons_append]
  have HM0 := (((Mem.start (fp := none_) w).box #[.string (ofL s)] 9).box #[.slice none 0 0] 37).nilT
  simp only [World.size_alloc] at HM0
  have hbp : (Blk w.heap.size 9 #[.string (ofL s)]).ok _ := HM0.at_ 2 rfl
  have c0 := Blk.cell_ hbp 0
  simp only [List.getElem?_toArray, List.getElem?_cons_succ, List.getElem?_cons_zero] at c0
  have hsq := seq_calls s ((w.alloc (.cells #[.string (ofL s)] 9)).alloc (.cells #[.slice none 0 0] 37))
  clear hbp
  gi_wp2_with fail
  refine ⟨trivial, ?_⟩
  refine (callsIn_wide.2 hsq).mono ?_
  rintro e w1 ⟨sb, pb, qb, rfl, HM1⟩
  have HM2 := HM0.got HM1
  clear hsq HM1 HM0 c0
  have HM3 : Mem none_ w (SeqC sb pb qb s ++ PartC (w.heap.size + 1) w.heap.size s (rootedL s) (.slice none 0 0) []) w1 := HM2.sel [0, 1, 2, 4, 3, 5] (by decide)
  clear HM2
  generalize w.heap.size + 1 = bo at *
  generalize w.heap.size = bp at *
  gi_wp2_with fail
  refine wpIn_rangeFunc_mem (n := 8) (gf := 86) (lb := #[.pointer (some ⟨pb, 0, none⟩), .pointer (some ⟨sb, 0, none⟩), .pointer (some ⟨qb, 0, none⟩)]) rfl (enters_of Tryd.func86 (by kernel_rfl) rfl)
    (α := List UInt8) (encs := fun x => #[.string (ofL x)]) (fun _ => rfl) (fun cur => SeqC sb pb qb cur) (fun v pre => PartC bo bp s (rootedL s) v pre) (splitL 47 s) s (.slice none 0 0) HM3 (fun pre x => x.length ≤ 9000000 ∧ pre.length ≤ 9000000) ?iter
    (fun x => { tmps := #[.string (ofL s), .pointer (some ⟨bp, 0, none⟩), .slice none 0 0, .pointer (some ⟨bo, 0, none⟩), .string (ofL x), undef, .string (ofL s), .func (.func 86) #[] #[.pointer (some ⟨pb, 0, none⟩), .pointer (some ⟨sb, 0, none⟩), .pointer (some ⟨qb, 0, none⟩)], .string (ofL x), undef, undef, undef, undef, undef, undef, undef, undef, undef, undef, undef, undef, undef, undef, undef, undef, undef, undef, undef, undef, undef, undef, undef, undef, undef, undef, undef, undef, undef, undef, undef, undef, undef, undef], defers := [] }) ?assign ?body ?done
  case iter =>
    intro l CH' W hY hM
    exact iter_calls 7 l sb pb qb s (by omega) CH' none_ w (fun cur pre x W1 h1 h2 h3 => hY cur pre x W1 h1 ⟨h2, h3⟩) W hM
  case assign =>
    intro l x W K hK
    gi_wp2
    exact hK
  case body =>
    intro l cur v pre x W R HM hok
    obtain ⟨hxb, hpb⟩ := hok
    have HM' : Mem none_ w ([Blk sb 9 #[.string (ofL cur)], Blk pb 9 #[.string ⟨#[47]⟩], Blk qb 3 #[.int .i64 0], Blk bo 37 #[v]] ++ TRow v (pre.foldl (stepL (rootedL s)) []) :: (Blk bp 9 #[.string (ofL s)] :: R)) W := HM
    clear HM
    have HM := HM'.front
    clear HM'
    obtain ⟨hbo, hbp, hfz⟩ : W.cell? ⟨bo, 0, none⟩ = some v ∧ W.cell? ⟨bp, 0, none⟩ = some (.string (ofL s)) ∧ W.frozen? ⟨bo, 0, none⟩ = false := by
      have h1 : (Blk bo 37 #[v]).ok W := HM.at_ 4 rfl
      have h2 : (Blk bp 9 #[.string (ofL s)]).ok W := HM.at_ 5 rfl
      exact ⟨by rw [Blk.cell_ h1]; rfl, by rw [Blk.cell_ h2]; rfl, Blk.frozen h1 0⟩
    have hol := fold_len (rootedL s) pre []
    rw [List.length_nil] at hol
    have hrt := prooted_calls s W
    generalize rootedL s = r at *
    obtain ⟨out, hout⟩ : ∃ out, pre.foldl (stepL r) [] = out := ⟨_, rfl⟩
    rw [hout] at HM hol
    have Hback : Hid (∀ v' l' W', Mem none_ w (TRow v' l' :: ([Blk sb 9 #[.string (ofL cur)], Blk pb 9 #[.string ⟨#[47]⟩], Blk qb 3 #[.int .i64 0], Blk bo 37 #[v']] ++ (Blk bp 9 #[.string (ofL s)] :: R))) W' → l' = stepL r out x → Mem none_ w (Blk sb 9 #[.string (ofL cur)] :: Blk pb 9 #[.string ⟨#[47]⟩] :: Blk qb 3 #[.int .i64 0] :: Blk bo 37 #[v'] :: TRow v' (stepL r (pre.foldl (stepL r) []) x) :: Blk bp 9 #[.string (ofL s)] :: R) W') := by
      intro v' l' W' h e
      have h2 := Mem.back [_, _, _, _] h
      rw [e] at h2
      rw [hout]; exact h2
    have Hsto : Hid (∀ v0 v' l' W', Mem none_ w (TRow v' l' :: ([Blk sb 9 #[.string (ofL cur)], Blk pb 9 #[.string ⟨#[47]⟩], Blk qb 3 #[.int .i64 0], Blk bo 37 #[v0]] ++ (Blk bp 9 #[.string (ofL s)] :: R))) W' → l' = stepL r out x → Mem none_ w (Blk sb 9 #[.string (ofL cur)] :: Blk pb 9 #[.string ⟨#[47]⟩] :: Blk qb 3 #[.int .i64 0] :: Blk bo 37 #[v'] :: TRow v' (stepL r (pre.foldl (stepL r) []) x) :: Blk bp 9 #[.string (ofL s)] :: R) (W'.setCell ⟨bo, 0, none⟩ v')) := by
      intro v0 v' l' W' h e
      have h2 : Mem none_ w ([TRow v' l', Blk sb 9 #[.string (ofL cur)], Blk pb 9 #[.string ⟨#[47]⟩], Blk qb 3 #[.int .i64 0]] ++ Blk bo 37 #[v0] :: (Blk bp 9 #[.string (ofL s)] :: R)) W' := h
      have h3 := Mem.back [_, _, _, _] (h2.front.blkSet 0 v')
      exact Hback.out v' l' _ h3 e
    clear hout
    obtain ⟨OA, oc, rfl, o1, o2⟩ := Row.any_ HM.head
    unfold maxLen at o2
    have e0 := empty_eq x
    have e1 := lit_eq x dotL
    have e2 := lit_eq x ddL
    by_cases h0 : x = []
    · rw [decide_eq_true h0] at e0
      have HE := Lib.hid (Hback.out _ _ _ HM (stepL_skip (.inl h0)).symm)
      clear h0 e1 e2
      gi_wp2_with fail
      exact ⟨_, HE.out⟩
    · rw [decide_eq_false h0] at e0
      by_cases h1 : x = dotL
      · rw [decide_eq_true h1] at e1
        have HE := Lib.hid (Hback.out _ _ _ HM (stepL_skip (.inr h1)).symm)
        clear h0 h1 e2
        gi_wp2_with fail
        exact ⟨_, HE.out⟩
      · rw [decide_eq_false h1] at e1
        by_cases h2 : x = ddL
        · rw [decide_eq_true h2] at e2
          have hxd := Lib.hid h2
          clear h0 h1 h2
          cases hz : out.getLast? with
          | none =>
            have ho : out = [] := List.getLast?_eq_none_iff.1 hz
            have hst : Hid (out = [] ∨ out.getLast? = some ddL) := Lib.hid (.inl ho)
            have d1 : decide (0 < (out.length : Int)) = false := by rw [ho]; rfl
            have d2 : decide (0 < out.length) = false := by rw [ho]; rfl
            clear ho hz
            have hrw := hrt
            cases r with
            | true =>
              have HE : Hid (out = stepL true out x) := by
                unfold Hid
                rw [hxd.out, stepL_stay hst.out]; rfl
              have HB := Lib.hid (Hback.out _ _ _ HM HE.out)
              clear hxd hst HE
              gi_wp2_with fail
              refine ⟨trivial, ((callsIn_wide.2 hrw).inRound l).mono ?_⟩
              rintro e w6 ⟨rfl, rfl⟩
              clear hrw hrt
              gi_wp2_with fail
              exact ⟨_, HB.out⟩
            | false =>
              have HE : Hid (out ++ [x] = stepL false out x) := by
                unfold Hid
                rw [hxd.out, stepL_stay hst.out]; rfl
              clear hxd hst
              gi_wp2_with fail
              refine ⟨trivial, ((callsIn_wide.2 hrw).inRound l).mono ?_⟩
              rintro e w6 ⟨rfl, rfl⟩
              clear hrw hrt
              gi_wp2_with (gi_at_builtin; refine wpListIn_appT strE rfl _ _ rfl HM rfl x _ rfl ?hnb ?hb ?_; (try (case hnb => simp)); (case hb => omega); intro v' w' HM3; obtain ⟨Av, cv, rfl, _, _⟩ := Row.any_ HM3.head; have hb2 : (Blk bo 37 #[.slice OA out.length oc]).ok w' := HM3.at_ 4 rfl; have y3 : w'.cell? ⟨bo, 0, none⟩ = some (.slice OA out.length oc) := (Blk.cell_ hb2 0).trans rfl; have y4 := Blk.frozen hb2 0)
              have HF := Hsto.out _ _ _ _ HM3 HE.out
              rw [List.length_append] at HF
              exact ⟨_, HF⟩
          | some z =>
            obtain ⟨hn, hzc⟩ := last_get hz
            have d1 : decide (0 < (out.length : Int)) = true := decide_eq_true (by omega)
            have d2 : decide (0 < out.length) = true := decide_eq_true hn
            obtain ⟨ob, oc', eo, _, _⟩ := Row.at_ HM.head hn
            cases eo
            have y0 := Row.cell HM.head hzc
            have ei : ((out.length : Nat) : Int) - 1 = ((out.length - 1 : Nat) : Int) := by omega
            have ej : out.length - 1 < out.length := by omega
            have ej2 : out.length - 1 ≤ oc := by omega
            have ez := lit_eq z ddL
            have hwr : IntKind.i64.wrap ((out.length - 1 : Nat) : Int) = ((out.length - 1 : Nat) : Int) := IntWalk.i64_in _ (by omega)
            clear hzc
            by_cases h3 : z = ddL
            · have hst : Hid (out = [] ∨ out.getLast? = some ddL) := Lib.hid (.inr (by rw [hz, h3]))
              rw [decide_eq_true h3] at ez
              have ez2 : ((ofL z).toList != [46, 46]) = false := by rw [bne, ez]; rfl
              clear hz h3
              generalize hm : out.length - 1 = m at *
              have Hm := Lib.hid hm
              clear hm
              have hrw := hrt
              cases r with
              | true =>
                have HE : Hid (out = stepL true out x) := by
                  unfold Hid
                  rw [hxd.out, stepL_stay hst.out]; rfl
                have HB := Lib.hid (Hback.out _ _ _ HM HE.out)
                clear hxd hst HE
                gi_wp2_with fail
                refine ⟨trivial, ((callsIn_wide.2 hrw).inRound l).mono ?_⟩
                rintro e w6 ⟨rfl, rfl⟩
                clear hrw hrt
                gi_wp2_with fail
                exact ⟨_, HB.out⟩
              | false =>
                have HE : Hid (out ++ [x] = stepL false out x) := by
                  unfold Hid
                  rw [hxd.out, stepL_stay hst.out]; rfl
                clear hxd hst
                gi_wp2_with fail
                refine ⟨trivial, ((callsIn_wide.2 hrw).inRound l).mono ?_⟩
                rintro e w6 ⟨rfl, rfl⟩
                clear hrw hrt
                gi_wp2_with (gi_at_builtin; refine wpListIn_appT strE rfl _ _ rfl HM rfl x _ rfl ?hnb ?hb ?_; (try (case hnb => simp)); (case hb => omega); intro v' w' HM3; obtain ⟨Av, cv, rfl, _, _⟩ := Row.any_ HM3.head; have hb2 : (Blk bo 37 #[.slice (some ⟨ob, 0, none⟩) out.length oc]).ok w' := HM3.at_ 4 rfl; have y3 : w'.cell? ⟨bo, 0, none⟩ = some (.slice (some ⟨ob, 0, none⟩) out.length oc) := (Blk.cell_ hb2 0).trans rfl; have y4 := Blk.frozen hb2 0)
                have HF := Hsto.out _ _ _ _ HM3 HE.out
                rw [List.length_append] at HF
                exact ⟨_, HF⟩
            · rw [decide_eq_false h3] at ez
              have ez2 : ((ofL z).toList != [46, 46]) = true := by rw [bne, ez]; rfl
              have HM4 := HM.takeT (k := out.length - 1) (by omega)
              have HE := Lib.hid (Hsto.out _ _ _ _ HM4 (by rw [hxd.out, stepL_drop hz h3, dropLast_take]))
              clear hxd hz h3 HM4
              generalize hm : out.length - 1 = m at *
              clear hm
              gi_wp2_with fail
              exact ⟨_, HE.out⟩
        · rw [decide_eq_false h2] at e2
          have HE : Hid (out ++ [x] = stepL r out x) := Lib.hid (stepL_plain h0 h1 h2).symm
          clear h0 h1 h2
          gi_wp2_with (gi_at_builtin; refine wpListIn_appT strE rfl _ _ rfl HM rfl x _ rfl ?hnb ?hb ?_; (try (case hnb => simp)); (case hb => omega); intro v' w' HM3; obtain ⟨Av, cv, rfl, _, _⟩ := Row.any_ HM3.head; have hb2 : (Blk bo 37 #[.slice OA out.length oc]).ok w' := HM3.at_ 4 rfl; have y3 : w'.cell? ⟨bo, 0, none⟩ = some (.slice OA out.length oc) := (Blk.cell_ hb2 0).trans rfl; have y4 := Blk.frozen hb2 0)
          have HF := Hsto.out _ _ _ _ HM3 HE.out
          rw [List.length_append] at HF
          exact ⟨_, HF⟩
  case done =>
    intro D cur v W HM
    have hbo : (Blk bo 37 #[v]).ok W := HM.at_ 3 rfl
    have c1 : W.cell? ⟨bo, 0, none⟩ = some v := by rw [Blk.cell_ hbo]; rfl
    have HMd : Mem none_ w [ObjC D (.deferred (some [])), TRow v (partsL s)] W := HM.sel [6, 4] (by decide)
    have hK : W.heap[D]? = some (.deferred (some [])) := HMd.head
    have HMe := (HMd.putObj (.deferred none)).tail
    clear hbo HM HMd
    gi_wp2_with fail
    refine ⟨by simp, .inl ⟨_, _, rfl, run_takeDeferred hK, ?_⟩⟩
    refine ⟨v, ?_, v, rfl, HMe⟩
    exact results_tmp (t := 2) rfl _ _ _
end Go.Proofs.YtjhcabjlhnhkbaaDoor
