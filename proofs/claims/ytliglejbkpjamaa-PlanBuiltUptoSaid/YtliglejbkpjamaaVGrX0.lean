/-
  Layer 16 (graph): far.
  Layer 16 (graph): what the nodes of a graph are, plainly; the problem is another one than none.
-/
import Derived.Test.YtliglejbkpjamaaVGrS0
import Derived.Test.YtliglejbkpjamaaVGrT0
set_option linter.unusedVariables false
set_option linter.unusedSimpArgs false
namespace Go.Proofs.Ytliglejbkpjamaa
section
set_option maxRecDepth 100000
open Go.RowKit

def wgt (r : RuleS) : Nat := min r.tg.length 1000 * 3 + min r.src.length 1000
def wgts (l : List RuleS) : Nat := (l.map wgt).sum
def farB (l : List RuleS) (x y : Nat) : Bool := decide (200 < wgts (l.take 100)) || decide (40 < l.length) || decide (30 < x + y)
theorem wgt_le (r : RuleS) : wgt r ≤ 4000 := by unfold wgt; omega
theorem wgts_le : ∀ l : List RuleS, wgts l ≤ 4000 * l.length
  | [] => Nat.le_refl _
  | r :: l => by
    have h1 := wgts_le l
    have h2 := wgt_le r
    unfold wgts at h1 ⊢
    rw [List.map_cons, List.sum_cons, List.length_cons]; omega
theorem wgts_snoc (l : List RuleS) (k : Nat) (h : k < l.length) : wgts (l.take (k + 1)) = wgts (l.take k) + wgt l[k] := by
  unfold wgts
  rw [List.take_succ_eq_append_getElem h, List.map_append, List.sum_append]; simp
set_option maxHeartbeats 8000000 in
theorem farG_calls (LV : Value) (l : List RuleS) (Ax : Option Addr) (nx cx : Nat) (Ay : Option Addr) (ny cy : Nat) (w : World) (hL : Rules w LV l) (hx : nx ≤ 140737488351232) (hy : ny ≤ 140737488351232) :
    Calls Try.prog 11 #[LV, .slice Ax nx cx, .slice Ay ny cy] w fun e w' => e = .returned (.bool (farB l nx ny)) ∧ Mem none_ w [] w' := by
  obtain ⟨Al, nl, cl, rfl⟩ : ∃ A n c, LV = .slice A n c := by
    obtain ⟨cells, ⟨A, c, e, _⟩, _⟩ := hL
    exact ⟨A, _, c, e⟩
  obtain ⟨rfl, gl1, gl2, gl3⟩ := hL.get
  unfold maxLen at gl2
  obtain ⟨R, hR⟩ : ∃ R, farB l nx ny = R := ⟨_, rfl⟩
  rw [hR]
  have hR := Lib.hid hR
  obtain ⟨m, hm⟩ : ∃ m, min l.length 100 = m := ⟨_, rfl⟩
  have hmi : min (l.length : Int) 100 = (m : Int) := by omega
  have hm1 : m ≤ 100 := by omega
  have hm2 : m ≤ l.length := by omega
  have hmc : m ≤ cl := by omega
  have hlt1 : (l.take 100).length = m := by rw [List.length_take]; omega
  have hm := Lib.hid hm
  have hmi2 := Lib.hid hmi
  have hlt1 := Lib.hid hlt1
  go_enter Try.func11, Try.ntmps11
  go_wp2_with fail
  have HM0 := Lib.hid (Mem.start (fp := none_) w)
  go_loopw [7, 16] (fun v7 v16 wr => ∃ k : Nat, k ≤ m ∧ v16 = .int .i64 k ∧ v7 = .int .i64 (wgts (l.take k) : Nat) ∧ Mem none_ w [] wr) (fun _ v _ => m - (intOf v).toNat)
  case atStart => exact ⟨0, Nat.zero_le _, rfl, rfl, HM0.out⟩
  case round =>
    clear HM0
    obtain ⟨k, hk, rfl, rfl, HM⟩ := hrel
    have hwk : wgts (l.take k) ≤ 4000 * k := by
      have := wgts_le (l.take k)
      rw [List.length_take] at this
      have e : min k l.length = k := by omega
      rw [e] at this; exact this
    by_cases hlt : k < m
    · have hlt' : decide ((k : Int) < (m : Int)) = true := decide_eq_true (by omega)
      have hltN : decide (k < m) = true := decide_eq_true hlt
      have hkl : k < l.length := by omega
      obtain ⟨br, orr, rfl, hcells⟩ := gl3.resolve_left (by omega)
      obtain ⟨TV, XV, CV, x0, x1, x2, x3, x4, t1, t2, t3⟩ := hcells k hkl
      have hnx := Lib.hid (wgts_snoc l k hkl)
      clear hcells gl3
      have x0 := Pure.cell HM.mu x0
      have x1 := Pure.cell HM.mu x1
      have x2 := Pure.cell HM.mu x2
      have x3 := Pure.cell HM.mu x3
      have x4 := Pure.cell HM.mu x4
      generalize l[k] = r at *
      generalize wgts (l.take k) = n at *
      obtain ⟨A1, c1, rfl, _⟩ := t1
      obtain ⟨A2, c2, rfl, _⟩ := t2
      obtain ⟨A3, c3, rfl, _⟩ := t3
      obtain ⟨q1, hq1⟩ : ∃ q, min r.tg.length 1000 = q := ⟨_, rfl⟩
      obtain ⟨q2, hq2⟩ : ∃ q, min r.src.length 1000 = q := ⟨_, rfl⟩
      have hmi1 : min (r.tg.length : Int) 1000 = (q1 : Int) := by omega
      have hmi3 : min (r.src.length : Int) 1000 = (q2 : Int) := by omega
      have hnx2 : wgts (l.take (k + 1)) = n + (q1 * 3 + q2) := by
        rw [hnx.out]; unfold wgt; rw [hq1, hq2]
      have hnx2 := Lib.hid hnx2
      have hb1 : q1 ≤ 1000 := by omega
      have hb2 : q2 ≤ 1000 := by omega
      have hw1 : IntKind.i64.wrap ((q1 : Int) * 3) = (q1 : Int) * 3 := IntWalk.i64_in _ (by omega)
      have hw2 : IntKind.i64.wrap ((q1 : Int) * 3 + (q2 : Int)) = (q1 : Int) * 3 + (q2 : Int) := IntWalk.i64_in _ (by omega)
      have hw3 : IntKind.i64.wrap ((n : Int) + ((q1 : Int) * 3 + (q2 : Int))) = (n : Int) + ((q1 : Int) * 3 + (q2 : Int)) := IntWalk.i64_in _ (by omega)
      clear hq1 hq2 hnx
      have HM1 := Lib.hid (HM.box #[.slice A1 r.tg.length c1, .int .i64 r.kind, .slice A2 r.src.length c2, .slice A3 r.cmd.length c3, .int .i64 r.at_] 25)
      clear HM
      go_wp2_with fail
      go_roundw
      case rel => exact ⟨k + 1, by omega, by go_num, by rw [hnx2.out]; go_num, HM1.out.tail⟩
      case measure => simp [intOf]; omega
    · have hlt' : decide ((k : Int) < (m : Int)) = false := decide_eq_false (by omega)
      have hltN : decide (k < m) = false := decide_eq_false hlt
      have hkm : k = m := by omega
      subst hkm
      have hwe : wgts (l.take k) = wgts (l.take 100) := by
        congr 1
        rcases Nat.lt_or_ge l.length 100 with h | h
        · rw [List.take_of_length_le (by have := hm.out; omega), List.take_of_length_le (by omega)]
        · rw [show k = 100 from by have := hm.out; omega]
      have hHM := Lib.hid HM
      have hwk2 : wgts (l.take 100) ≤ 400000 := by rw [← hwe]; omega
      rw [hwe]
      clear hwe HM hwk
      have hR2 := hR.out
      unfold farB at hR2
      clear hR
      generalize wgts (l.take 100) = n at *
      have hw1 : IntKind.i64.wrap ((nx : Int) + (ny : Int)) = (nx : Int) + (ny : Int) := IntWalk.i64_in _ (by omega)
      have ex : (30 : Int) < (nx : Int) + (ny : Int) ↔ 30 < nx + ny := by omega
      have e1 : ((nx : Int) + (ny : Int)) = ((nx + ny : Nat) : Int) := by omega
      rw [e1] at hw1
      by_cases hA : 200 < n
      · have a1 : decide ((200 : Int) < (n : Int)) = true := decide_eq_true (by omega)
        have a2 : decide (200 < n) = true := decide_eq_true hA
        rw [a2] at hR2
        obtain rfl : R = true := hR2.symm
        clear hR2
        clear hA ex e1 hm
        go_wp2_with fail
        go_ret
        exact ⟨rfl, hHM.out⟩
      · have a1 : decide ((200 : Int) < (n : Int)) = false := decide_eq_false (by omega)
        have a2 : decide (200 < n) = false := decide_eq_false hA
        rw [a2] at hR2
        by_cases hB : 40 < l.length
        · have b1 : decide ((40 : Int) < (l.length : Int)) = true := decide_eq_true (by omega)
          have b2 : decide (40 < l.length) = true := decide_eq_true hB
          rw [b2] at hR2
          obtain rfl : R = true := hR2.symm
          clear hR2
          clear hA hB ex e1 hm
          go_wp2_with fail
          go_ret
          exact ⟨rfl, hHM.out⟩
        · have b1 : decide ((40 : Int) < (l.length : Int)) = false := decide_eq_false (by omega)
          have b2 : decide (40 < l.length) = false := decide_eq_false hB
          rw [b2] at hR2
          obtain ⟨c, hc⟩ : ∃ c, decide (30 < nx + ny) = c := ⟨_, rfl⟩
          have c1 : decide ((30 : Int) < (nx : Int) + (ny : Int)) = c := by rw [← hc]; exact decide_eq_decide.2 ex
          rw [hc] at hR2
          obtain rfl : R = c := hR2.symm
          clear hR2 hc
          clear hA hB ex e1 hm
          go_wp2_with fail
          go_ret
          exact ⟨rfl, hHM.out⟩
/-- What is not far. -/
theorem not_far {l : List RuleS} {x y : Nat} (h : farB l x y = false) : l.length ≤ 40 ∧ x + y ≤ 30 ∧ (l.map fun r => r.tg.length * 3 + r.src.length).sum ≤ 200 := by
  unfold farB at h
  simp only [Bool.or_eq_false_iff, decide_eq_false_iff_not, Nat.not_lt] at h
  obtain ⟨⟨h1, h2⟩, h3⟩ := h
  refine ⟨h2, h3, ?_⟩
  rw [List.take_of_length_le (by omega)] at h1
  have key : ∀ m : List RuleS, wgts m ≤ 200 → (m.map fun r => r.tg.length * 3 + r.src.length).sum ≤ 200 ∧ (m.map fun r => r.tg.length * 3 + r.src.length).sum = wgts m := by
    intro m
    induction m with
    | nil => intro _; exact ⟨Nat.zero_le _, rfl⟩
    | cons r m ih =>
      intro h
      have e : wgts (r :: m) = wgt r + wgts m := by unfold wgts; rw [List.map_cons, List.sum_cons]
      rw [e] at h ⊢
      obtain ⟨_, i2⟩ := ih (by omega)
      rw [List.map_cons, List.sum_cons, i2]
      unfold wgt at h ⊢
      omega
  exact (key l h1).1
theorem sum_le {α : Type} (f g : α → Nat) (h : ∀ x, f x ≤ g x) : ∀ l : List α, (l.map f).sum ≤ (l.map g).sum
  | [] => Nat.le_refl _
  | x :: l => by
    rw [List.map_cons, List.map_cons, List.sum_cons, List.sum_cons]
    have := h x
    have := sum_le f g h l
    omega
theorem mem_sum {α : Type} (f : α → Nat) : ∀ (l : List α) (x : α), x ∈ l → f x ≤ (l.map f).sum
  | y :: l, x, h => by
    rw [List.map_cons, List.sum_cons]
    rcases List.mem_cons.1 h with rfl | h
    · omega
    · have := mem_sum f l x h; omega
theorem sized_of {l : List RuleS} {x y Z C : Nat} (h : farB l x y = false) (hz : ∀ r, r ∈ l → r.cmd.length ≤ C ∧ (∀ t, t ∈ r.tg → t.size ≤ Z) ∧ ∀ x, x ∈ r.src → x.size ≤ Z) (hZ : Z ≤ 1048576) (hC : C ≤ 1048576) : Sized l Z 200 C 66 := by
  obtain ⟨h1, h2, h3⟩ := not_far h
  have e : (l.map fun r => r.tg.length * 3 + r.src.length).sum = (l.map fun r => r.tg.length).sum * 3 + (l.map fun r => r.src.length).sum := by
    clear h h1 h2 h3 hz
    induction l with
    | nil => rfl
    | cons r l ih => simp only [List.map_cons, List.sum_cons, ih]; omega
  refine ⟨fun r hr => ?_, ?_, hZ, Nat.le_refl _, hC, Nat.le_refl _, ?_⟩
  · have := mem_sum (fun r : RuleS => r.tg.length * 3 + r.src.length) l r hr
    exact ⟨by omega, hz r hr⟩
  · rw [List.length_flatMap]
    omega
  · unfold pre
    rw [List.take_length]
    omega
end
section
set_option maxRecDepth 100000
open Go.RowKit
theorem neqP0 (w : World) : (binOp .neq 32 (.agg #[.int .i64 0, .string ⟨#[]⟩, .int .i64 0]) (.agg #[.int .i64 0, .string ⟨#[]⟩, .int .i64 0])).run Try.prog w = .ok (.bool false) w := by kernel_rfl
theorem neqP (why pat : Int) (nm : ByteArray) (w : World) (h : why ≠ 0) : (binOp .neq 32 (.agg #[.int .i64 why, .string nm, .int .i64 pat]) (.agg #[.int .i64 0, .string ⟨#[]⟩, .int .i64 0])).run Try.prog w = .ok (.bool true) w := by
  have hS : Try.prog.underlying 32 = some (.struct (Try.prog.fieldsOf 32)) := by kernel_rfl
  rw [run_neq_struct, run_equalIn_struct (d := 9999) w _ _ _ hS (by kernel_rfl)]
  have h1 := run_equalIn_int (P := Try.prog) w 9998 30 .i64 .i64 why 0 (by kernel_rfl)
  have hf : (match (Try.prog.fieldsOf 32).toList with
    | [f0, f1, f2] => decide ((f0.name == "_") = false ∧ (f1.name == "_") = false ∧ (f2.name == "_") = false ∧ f0.type = 30 ∧ f1.type = 9 ∧ f2.type = 3 ∧ f0.offset = 0 ∧ f1.offset = 1 ∧ f2.offset = 2)
    | _ => false) = true := by kernel_rfl
  revert hf
  generalize (Try.prog.fieldsOf 32).toList = fs
  intro hf
  match fs, hf with
  | [f0, f1, f2], hf =>
    obtain ⟨a0, a1, a2, b0, b1, b2, c0, c1, c2⟩ := of_decide_eq_true hf
    have n0 : f0.name ≠ "_" := by simpa using a0
    have n1 : f1.name ≠ "_" := by simpa using a1
    have n2 : f2.name ≠ "_" := by simpa using a2
    have p0 : ∀ x y z : Value, ∀ wx, (part 30 #[x, y, z] 0).run Try.prog wx = .ok x wx := fun x y z wx => by kernel_rfl
    have p1 : ∀ x y z : Value, ∀ wx, (part 9 #[x, y, z] 1).run Try.prog wx = .ok y wx := fun x y z wx => by kernel_rfl
    have p2 : ∀ x y z : Value, ∀ wx, (part 3 #[x, y, z] 2).run Try.prog wx = .ok z wx := fun x y z wx => by kernel_rfl
    simp only [Op.eqFields, if_pos n0, if_pos n1, if_pos n2, Sem.run_bind, b0, b1, b2, c0, c1, c2, p0, p1, p2, Result.andThen_ok]
    rw [show (9999 : Nat) = 9998 + 1 from rfl, h1, show (why == 0) = false from beq_eq_false_iff_ne.2 h]
    simp

structure Laid (gs : List ByteArray) (xs : List NX) : Prop where
  nd : (xs.map fun x => x.nd.name).Nodup
  src : ∀ i (h : i < xs.length) s, s ∈ xs[i].nd.src → s ∈ (xs.take i).map fun x => x.nd.name
  one : ∀ x, x ∈ xs → x.nd.src.Nodup
  from_ : ∀ i (h : i < xs.length), xs[i].nd.name ∈ gs ∨ ∃ j, ∃ h2 : j < xs.length, i < j ∧ xs[i].nd.name ∈ xs[j].nd.src
  has : ∀ g, g ∈ gs → g ∈ xs.map fun x => x.nd.name
  len : xs.length ≤ 512
  pos : gs ≠ []
  srcs : ∀ x, x ∈ xs → x.nd.src.length ≤ 1000001
  loop : NoLoop xs
  afts : ∀ x, x ∈ xs → x.nd.aft.length ≤ 40200 ∧ ∀ y, y ∈ x.nd.aft → y ∈ xs.map fun x => x.nd.name
theorem laid_of {l : List RuleS} {files goals gs : List ByteArray} {xs : List NX} (h : Good l files goals gs xs) : Laid gs xs := by
  obtain ⟨rules, hj, hw, ha, hq, hl⟩ := h.how
  have hg := visV_goes l rules files gs hw
  have hi := hg.inv
  generalize visV l rules files gs = s at *
  have hnm : ∀ i (h1 : i < xs.length), ∃ h2 : i < s.nodes.length, s.nodes[i].name = xs[i].nd.name ∧ s.nodes[i].src = xs[i].nd.src := fun i h1 => by
    obtain ⟨h2, e⟩ := aok_get ha h1
    exact ⟨h2, (congrArg NodeS.name e : (strip _).name = (strip _).name).symm, (congrArg NodeS.src e : (strip _).src = (strip _).src).symm⟩
  have hsz := ha.size
  obtain ⟨new, hn1, hn2⟩ := hg.new
  have hn1 : s.nodes = new := hn1
  subst hn1
  refine ⟨?_, ?_, ?_, ?_, ?_, ?_, h.pos, hl, h.loop, fun x hx => ⟨ha.len x hx, fun y hy => ?_⟩⟩
  · rw [ha.names]; exact hi.nd
  · intro i h1 t ht
    obtain ⟨h2, e3, e4⟩ := hnm i h1
    rw [← e4] at ht
    obtain ⟨j, m, hj2, hm, hmn⟩ := hi.src i s.nodes[i] (List.getElem?_eq_getElem h2) t ht
    have hjx : j < xs.length := by omega
    obtain ⟨h3, e5, _⟩ := hnm j hjx
    rw [List.getElem?_eq_getElem h3] at hm
    cases hm
    have hjt : j < (xs.take i).length := by rw [List.length_take]; omega
    rw [← hmn, e5]
    refine List.mem_map.2 ⟨(xs.take i)[j], List.getElem_mem hjt, ?_⟩
    rw [List.getElem_take]
  · intro x hx
    obtain ⟨i, h1, rfl⟩ := List.getElem_of_mem hx
    obtain ⟨h2, e3, e4⟩ := hnm i h1
    rw [← e4]
    exact (hi.sd _ (List.getElem_mem h2)).1
  · intro i h1
    obtain ⟨h2, e3, e4⟩ := hnm i h1
    rcases hn2 i s.nodes[i] (List.getElem?_eq_getElem h2) with h | ⟨j, m, hij, hm, hmn⟩
    · rw [← e3]; exact .inl h
    · have hj3 : j < s.nodes.length := (List.getElem?_eq_some_iff.1 hm).1
      have hjx : j < xs.length := by omega
      obtain ⟨h3, e5, e6⟩ := hnm j hjx
      rw [List.getElem?_eq_getElem h3] at hm
      cases hm
      exact .inr ⟨j, hjx, hij, by rw [← e3, ← e6]; exact hmn⟩
  · intro g hgm
    rw [ha.names]
    exact hg.has g hgm
  · have h1 := hg.len
    have h2 := hi.cnt
    have e1 : vs0.count = 0 := rfl
    have e2 : vs0.nodes.length = 0 := rfl
    rw [e1, e2] at h1
    omega
  · rw [ha.names]
    exact ha.in_ x hx y hy
theorem Laid.fresh {gs : List ByteArray} {xs : List NX} (h : Laid gs xs) (k : Nat) (hk : k < xs.length) : mem ((xs.take k).map fun x => x.nd.name) xs[k].nd.name = false := by
  rw [mem_false]
  intro hm
  obtain ⟨x, hx, e⟩ := List.mem_map.1 hm
  obtain ⟨j, hj, rfl⟩ := List.getElem_of_mem hx
  have hj2 : j < k := by rw [List.length_take] at hj; omega
  rw [List.getElem_take] at e
  have := List.pairwise_iff_getElem.1 h.nd j k (by rw [List.length_map]; omega) (by rw [List.length_map]; exact hk) hj2
  rw [List.getElem_map, List.getElem_map] at this
  exact this e
theorem Laid.met {gs : List ByteArray} {xs : List NX} (h : Laid gs xs) (k : Nat) (hk : k < xs.length) (j : Nat) (hj : j < xs[k].nd.src.length) : mem ((xs.take k).map fun x => x.nd.name) xs[k].nd.src[j] = true :=
  (mem_iff _ _).2 (h.src k hk _ (List.getElem_mem hj))
theorem once_src {l : List ByteArray} (h : l.Nodup) (j : Nat) (hj : j < l.length) : mem (l.take j) l[j] = false := by
  rw [mem_false]
  intro hm
  obtain ⟨i, hi, e⟩ := List.getElem_of_mem hm
  have hi2 : i < j := by rw [List.length_take] at hi; omega
  rw [List.getElem_take] at e
  exact List.pairwise_iff_getElem.1 h i j (by omega) hj hi2 e
/-- What a node's slices read as. -/
theorem own_of {fp : Nat → Prop} {w0 w : World} {xs : List NX} {L : List Chunk} (h : Mem fp w0 (L ++ xs.flatMap NX.own) w) {x : NX} (hx : x ∈ xs) : (StrRow x.SV x.nd.src).ok w ∧ (StrRow x.CV x.nd.cmd).ok w ∧ (StrRow x.AV x.nd.aft).ok w := by
  have key : ∀ c, c ∈ x.own → c.ok w := fun c hc => h.star.1 c (List.mem_append.2 (.inr (List.mem_flatMap.2 ⟨x, hx, hc⟩)))
  exact ⟨key _ (by simp [NX.own]), key _ (by simp [NX.own]), key _ (by simp [NX.own])⟩
end
end Go.Proofs.Ytliglejbkpjamaa
