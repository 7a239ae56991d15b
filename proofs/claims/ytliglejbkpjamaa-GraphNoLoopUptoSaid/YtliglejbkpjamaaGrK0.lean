/-
  Layer 16 (graph): the builder in memory; implied, plainly.
-/
import Derived.Test.YtliglejbkpjamaaGrI0
set_option linter.unusedVariables false
set_option linter.unusedSimpArgs false
set_option maxRecDepth 20000
namespace Go.Proofs.Ytliglejbkpjamaa
open Go.RowKit

/-- A node. -/
structure NodeS where
  name : ByteArray
  kind : Int
  src : List ByteArray
  cmd : List ByteArray
  aft : List ByteArray
  impl : ByteArray
  ph : Bool
  pr : Bool
  si : Bool
  ig : Bool
/-- A node of an own row: its cells' slices. -/
structure NX where
  SV : Value
  CV : Value
  AV : Value
  nd : NodeS
def NX.cells (x : NX) : List Value := [.string x.nd.name, .int .i64 x.nd.kind, x.SV, x.CV, x.AV, .string x.nd.impl, .bool x.nd.ph, .bool x.nd.pr, .bool x.nd.si, .bool x.nd.ig]
def NX.own (x : NX) : List Chunk := [StrRow x.SV x.nd.src, StrRow x.CV x.nd.cmd, StrRow x.AV x.nd.aft]
abbrev NRow (V : Value) (xs : List NX) : Chunk := Row 38 10 V xs.length (xs.flatMap NX.cells)
def RX.val (x : RX) : Value := .agg #[x.TV, .int .i64 x.r.kind, x.SV, x.CV, .int .i64 x.r.at_]
abbrev MarkS := Nat × List (ByteArray × Unit)
def markV (p : MarkS) : Value := .map (some p.1)
def markC (p : ByteArray × MarkS) : Chunk := MapC p.2.1 Value.string setV p.2.2
/-- The builder: its blocks, its slices, what it holds. -/
structure BS where
  b : Nat
  fb : Nat
  ob : Nat
  mb : Nat
  lb : Nat
  sb : Nat
  RV : Value
  SV : Value
  WV : Value
  TH : Value
  NV : Value
  suf : List ByteArray
  ways : List (ByteArray × ByteArray)
  files : List (ByteArray × Unit)
  own : List (ByteArray × RX)
  there : List ByteArray
  marks : List (ByteArray × MarkS)
  links : List (ByteArray × ByteArray)
  state : List (ByteArray × Int)
  nodes : List NX
  count : Int
  why : Int
  pname : ByteArray
  pat : Int
def BS.cells (X : BS) : Array Value := #[X.RV, X.SV, X.WV, .map (some X.fb), .map (some X.ob), X.TH, .map (some X.mb), .map (some X.lb), .map (some X.sb), X.NV, .int .i64 X.count, .int .i64 X.why, .string X.pname, .int .i64 X.pat]
def BS.heads (X : BS) : List Chunk := [Blk X.b 67 X.cells, StrRow X.SV X.suf, PrsRow X.WV X.ways, MapC X.fb Value.string setV X.files, MapC X.ob Value.string RX.val X.own, StrRow X.TH X.there, MapC X.mb Value.string markV X.marks,
  MapC X.lb Value.string Value.string X.links, MapC X.sb Value.string (Value.int .i64) X.state, NRow X.NV X.nodes]
def BS.tails (X : BS) : List Chunk := Cls (X.own.map (·.2)) ++ (X.marks.map markC ++ X.nodes.flatMap NX.own)
def BS.mem (X : BS) (F : List Chunk) : List Chunk := X.heads ++ (X.tails ++ F)

/-- One link more for each step of a chain. -/
def linkAll (m : List (ByteArray × ByteArray)) : ByteArray → List ByteArray → List (ByteArray × ByteArray)
  | _, [] => m
  | f, x :: xs => linkAll (if mhas m x then m else mput m x f) x xs
def chainL (ways : List (ByteArray × ByteArray)) (name : ByteArray) (there : List ByteArray) : List ByteArray := (up (walkOf ways name there).1.makes name 8 (walkOf ways name there).2).getD []
/-- A name's implied source, and the links behind. -/
def implB (suf : List ByteArray) (ways : List (ByteArray × ByteArray)) (there : List ByteArray) (m : List (ByteArray × ByteArray)) (name : ByteArray) : ByteArray × List (ByteArray × ByteArray) :=
  match mget m name with
  | some s => (s, m)
  | none => if (rightOf suf ways && hit ways name there) = true then (mval (linkAll m (walkOf ways name there).2 (chainL ways name there)) name, linkAll m (walkOf ways name there).2 (chainL ways name there)) else (⟨#[]⟩, m)
theorem up_mono {m : List (ByteArray × ByteArray)} {name : ByteArray} : ∀ {n k : Nat} {x : ByteArray} {l : List ByteArray}, up m name n x = some l → n ≤ k → up m name k x = some l
  | 0, _, _, _, h, _ => by unfold up at h; cases h
  | n + 1, 0, _, _, _, h => by omega
  | n + 1, k + 1, x, l, h, hk => by
    rcases up_succ h with ⟨rfl, rfl⟩ | ⟨hx, l', rfl, hl⟩
    · unfold up; rw [if_pos rfl]
    · unfold up
      rw [if_neg hx, up_mono hl (by omega)]; rfl
/-- Chain, in all cases. -/
theorem chainB_calls (SV WV TV : Value) (s : List ByteArray) (ways : List (ByteArray × ByteArray)) (name : ByteArray) (there : List ByteArray) (w : World) (hS : Strs w SV s) (hW : Prs w WV ways) (hT : Strs w TV there)
    (hws : ∀ p, p ∈ ways → p.1.size ≤ 1099511627776) (hn : name.size ≤ 1099511627776) :
    Calls Try.prog 76 #[.agg #[SV, WV], .string name, TV] w fun e w' => ∃ v, e = .returned (.tuple #[v, .bool (rightOf s ways && hit ways name there)]) ∧
      Mem none_ w [StrRow v (if (rightOf s ways && hit ways name there) = true then (walkOf ways name there).2 :: chainL ways name there else [])] w' := by
  cases hr : rightOf s ways
  · refine (chain_no SV WV TV s ways name w hS hW hr).mono ?_
    rintro e w' ⟨rfl, HM⟩
    exact ⟨_, rfl, HM.nilS⟩
  · have hl : ways.length ≤ 256 := (right_in hr).2
    cases hh : hit ways name there
    · refine (chain_miss SV WV TV s ways name there w hS hW hT hr hn hws hl hh).mono ?_
      rintro e w' ⟨rfl, HM⟩
      exact ⟨_, rfl, HM.nilS⟩
    · obtain ⟨n, l, f1, f2, f3, f4, f5, f6, f7, f8⟩ := chain_facts hh
      have hc : chainL ways name there = l := by unfold chainL; rw [up_mono f3 (by omega)]; rfl
      rw [hc]
      refine (chain_hit SV WV TV s ways name there w hS hW hT hr hn hws hl hh (n + 1) (by omega) l f3).mono ?_
      rintro e w' ⟨v, rfl, HM⟩
      exact ⟨v, rfl, HM⟩
theorem chainL_pos {s : List ByteArray} {ways : List (ByteArray × ByteArray)} {name : ByteArray} {there : List ByteArray} (h : (rightOf s ways && hit ways name there) = true) : 1 ≤ (chainL ways name there).length := by
  rw [Bool.and_eq_true] at h
  obtain ⟨n, l, f1, f2, f3, f4, _⟩ := chain_facts h.2
  unfold chainL
  rw [up_mono f3 (show n + 1 ≤ 8 by omega)]
  simp only [Option.getD_some]
  omega
theorem linkAll_step (m : List (ByteArray × ByteArray)) (f : ByteArray) (xs : List ByteArray) (i : Nat) (h : i < xs.length) (g : ByteArray) (hg : (f :: xs)[i]? = some g) :
    linkAll m g (xs.drop i) = linkAll (if mhas m xs[i] then m else mput m xs[i] g) xs[i] (xs.drop (i + 1)) := by
  rw [List.drop_eq_getElem_cons h]; rfl
end Go.Proofs.Ytliglejbkpjamaa
