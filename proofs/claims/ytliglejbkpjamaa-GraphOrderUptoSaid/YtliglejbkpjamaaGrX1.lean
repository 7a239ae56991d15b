/-
  Layer 16 (graph): what the nodes of a graph are, plainly; the problem is another one than none.
-/
import Derived.Test.YtliglejbkpjamaaGrX0
import Derived.Test.YtliglejbkpjamaaGrT0
set_option linter.unusedVariables false
set_option linter.unusedSimpArgs false
set_option maxRecDepth 100000
namespace Go.Proofs.Ytliglejbkpjamaa
open Go.RowKit
theorem neqP0 (w : World) : (binOp .neq 32 (.agg #[.int .i64 0, .string ⟨#[]⟩, .int .i64 0]) (.agg #[.int .i64 0, .string ⟨#[]⟩, .int .i64 0])).run Try.prog w = .ok (.bool false) w := by kernel_rfl
theorem neqP (why pat : Int) (nm : ByteArray) (w : World) (h : why ≠ 0) : (binOp .neq 32 (.agg #[.int .i64 why, .string nm, .int .i64 pat]) (.agg #[.int .i64 0, .string ⟨#[]⟩, .int .i64 0])).run Try.prog w = .ok (.bool true) w := by
  have hS : Try.prog.underlying 32 = some (.struct (Try.prog.fieldsOf 32)) := by kernel_rfl
  rw [run_neq_struct, run_equalIn_struct (d := 9999) w _ _ _ hS (by kernel_rfl)]
  have h1 := run_equalIn_int (P := Try.prog) w 9998 30 .i64 .i64 why 0 (by kernel_rfl)
  have hf : (match (Try.prog.fieldsOf 32).toList with
    | [f0, f1, f2] => decide ((f0.name == "_") = false ∧ (f1.name == "_") = false ∧ (f2.name == "_") = false ∧ f0.type = 30 ∧ f1.type = 9 ∧ f2.type = 3 ∧ f0.offset = 0 ∧ f1.offset = 1 ∧ f2.offset = 2)
    | _ => false) = true := by kernel_rfl
  revert hf
  generalize (Try.prog.fieldsOf 32).toList = fs
  intro hf
  match fs, hf with
  | [f0, f1, f2], hf =>
    obtain ⟨a0, a1, a2, b0, b1, b2, c0, c1, c2⟩ := of_decide_eq_true hf
    have n0 : f0.name ≠ "_" := by simpa using a0
    have n1 : f1.name ≠ "_" := by simpa using a1
    have n2 : f2.name ≠ "_" := by simpa using a2
    have p0 : ∀ x y z : Value, ∀ wx, (part 30 #[x, y, z] 0).run Try.prog wx = .ok x wx := fun x y z wx => by kernel_rfl
    have p1 : ∀ x y z : Value, ∀ wx, (part 9 #[x, y, z] 1).run Try.prog wx = .ok y wx := fun x y z wx => by kernel_rfl
    have p2 : ∀ x y z : Value, ∀ wx, (part 3 #[x, y, z] 2).run Try.prog wx = .ok z wx := fun x y z wx => by kernel_rfl
    simp only [Op.eqFields, if_pos n0, if_pos n1, if_pos n2, Sem.run_bind, b0, b1, b2, c0, c1, c2, p0, p1, p2, Result.andThen_ok]
    rw [show (9999 : Nat) = 9998 + 1 from rfl, h1, show (why == 0) = false from beq_eq_false_iff_ne.2 h]
    simp

structure Laid (gs : List ByteArray) (xs : List NX) : Prop where
  nd : (xs.map fun x => x.nd.name).Nodup
  src : ∀ i (h : i < xs.length) s, s ∈ xs[i].nd.src → s ∈ (xs.take i).map fun x => x.nd.name
  one : ∀ x, x ∈ xs → x.nd.src.Nodup
  from_ : ∀ i (h : i < xs.length), xs[i].nd.name ∈ gs ∨ ∃ j, ∃ h2 : j < xs.length, i < j ∧ xs[i].nd.name ∈ xs[j].nd.src
  has : ∀ g, g ∈ gs → g ∈ xs.map fun x => x.nd.name
  len : xs.length ≤ 512
  pos : gs ≠ []
  srcs : ∀ x, x ∈ xs → x.nd.src.length ≤ 1000001
  loop : NoLoop xs
  afts : ∀ x, x ∈ xs → x.nd.aft.length ≤ 40200 ∧ ∀ y, y ∈ x.nd.aft → y ∈ xs.map fun x => x.nd.name
theorem laid_of {l : List RuleS} {files goals gs : List ByteArray} {xs : List NX} (h : Good l files goals gs xs) : Laid gs xs := by
  obtain ⟨rules, hj, hw, ha, hq, hl⟩ := h.how
  have hg := visV_goes l rules files gs hw
  have hi := hg.inv
  generalize visV l rules files gs = s at *
  have hnm : ∀ i (h1 : i < xs.length), ∃ h2 : i < s.nodes.length, s.nodes[i].name = xs[i].nd.name ∧ s.nodes[i].src = xs[i].nd.src := fun i h1 => by
    obtain ⟨h2, e⟩ := aok_get ha h1
    exact ⟨h2, (congrArg NodeS.name e : (strip _).name = (strip _).name).symm, (congrArg NodeS.src e : (strip _).src = (strip _).src).symm⟩
  have hsz := ha.size
  obtain ⟨new, hn1, hn2⟩ := hg.new
  have hn1 : s.nodes = new := hn1
  subst hn1
  refine ⟨?_, ?_, ?_, ?_, ?_, ?_, h.pos, hl, h.loop, fun x hx => ⟨ha.len x hx, fun y hy => ?_⟩⟩
  · rw [ha.names]; exact hi.nd
  · intro i h1 t ht
    obtain ⟨h2, e3, e4⟩ := hnm i h1
    rw [← e4] at ht
    obtain ⟨j, m, hj2, hm, hmn⟩ := hi.src i s.nodes[i] (List.getElem?_eq_getElem h2) t ht
    have hjx : j < xs.length := by omega
    obtain ⟨h3, e5, _⟩ := hnm j hjx
    rw [List.getElem?_eq_getElem h3] at hm
    cases hm
    have hjt : j < (xs.take i).length := by rw [List.length_take]; omega
    rw [← hmn, e5]
    refine List.mem_map.2 ⟨(xs.take i)[j], List.getElem_mem hjt, ?_⟩
    rw [List.getElem_take]
  · intro x hx
    obtain ⟨i, h1, rfl⟩ := List.getElem_of_mem hx
    obtain ⟨h2, e3, e4⟩ := hnm i h1
    rw [← e4]
    exact (hi.sd _ (List.getElem_mem h2)).1
  · intro i h1
    obtain ⟨h2, e3, e4⟩ := hnm i h1
    rcases hn2 i s.nodes[i] (List.getElem?_eq_getElem h2) with h | ⟨j, m, hij, hm, hmn⟩
    · rw [← e3]; exact .inl h
    · have hj3 : j < s.nodes.length := (List.getElem?_eq_some_iff.1 hm).1
      have hjx : j < xs.length := by omega
      obtain ⟨h3, e5, e6⟩ := hnm j hjx
      rw [List.getElem?_eq_getElem h3] at hm
      cases hm
      exact .inr ⟨j, hjx, hij, by rw [← e3, ← e6]; exact hmn⟩
  · intro g hgm
    rw [ha.names]
    exact hg.has g hgm
  · have h1 := hg.len
    have h2 := hi.cnt
    have e1 : vs0.count = 0 := rfl
    have e2 : vs0.nodes.length = 0 := rfl
    rw [e1, e2] at h1
    omega
  · rw [ha.names]
    exact ha.in_ x hx y hy
theorem Laid.fresh {gs : List ByteArray} {xs : List NX} (h : Laid gs xs) (k : Nat) (hk : k < xs.length) : mem ((xs.take k).map fun x => x.nd.name) xs[k].nd.name = false := by
  rw [mem_false]
  intro hm
  obtain ⟨x, hx, e⟩ := List.mem_map.1 hm
  obtain ⟨j, hj, rfl⟩ := List.getElem_of_mem hx
  have hj2 : j < k := by rw [List.length_take] at hj; omega
  rw [List.getElem_take] at e
  have := List.pairwise_iff_getElem.1 h.nd j k (by rw [List.length_map]; omega) (by rw [List.length_map]; exact hk) hj2
  rw [List.getElem_map, List.getElem_map] at this
  exact this e
theorem Laid.met {gs : List ByteArray} {xs : List NX} (h : Laid gs xs) (k : Nat) (hk : k < xs.length) (j : Nat) (hj : j < xs[k].nd.src.length) : mem ((xs.take k).map fun x => x.nd.name) xs[k].nd.src[j] = true :=
  (mem_iff _ _).2 (h.src k hk _ (List.getElem_mem hj))
theorem once_src {l : List ByteArray} (h : l.Nodup) (j : Nat) (hj : j < l.length) : mem (l.take j) l[j] = false := by
  rw [mem_false]
  intro hm
  obtain ⟨i, hi, e⟩ := List.getElem_of_mem hm
  have hi2 : i < j := by rw [List.length_take] at hi; omega
  rw [List.getElem_take] at e
  exact List.pairwise_iff_getElem.1 h i j (by omega) hj hi2 e
/-- What a node's slices read as. -/
theorem own_of {fp : Nat → Prop} {w0 w : World} {xs : List NX} {L : List Chunk} (h : Mem fp w0 (L ++ xs.flatMap NX.own) w) {x : NX} (hx : x ∈ xs) : (StrRow x.SV x.nd.src).ok w ∧ (StrRow x.CV x.nd.cmd).ok w ∧ (StrRow x.AV x.nd.aft).ok w := by
  have key : ∀ c, c ∈ x.own → c.ok w := fun c hc => h.star.1 c (List.mem_append.2 (.inr (List.mem_flatMap.2 ⟨x, hx, hc⟩)))
  exact ⟨key _ (by simp [NX.own]), key _ (by simp [NX.own]), key _ (by simp [NX.own])⟩
end Go.Proofs.Ytliglejbkpjamaa
