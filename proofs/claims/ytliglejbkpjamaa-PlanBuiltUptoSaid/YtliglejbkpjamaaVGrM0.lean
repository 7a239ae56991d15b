/-
  Layer 16 (graph): node, plainly; wrong.
-/
import Derived.Test.YtliglejbkpjamaaVGrK0
import Derived.Test.YtliglejbkpjamaaVGrJ
import Derived.Test.YtliglejbkpjamaaVPthSi
import Derived.Test.YtliglejbkpjamaaVGrA
set_option linter.unusedVariables false
set_option linter.unusedSimpArgs false
set_option maxRecDepth 20000
namespace Go.Proofs.Ytliglejbkpjamaa
open Go.RowKit

def phN : ByteArray := ⟨#[46, 80, 72, 79, 78, 89]⟩
def prN : ByteArray := ⟨#[46, 80, 82, 69, 67, 73, 79, 85, 83]⟩
def siN : ByteArray := ⟨#[46, 83, 73, 76, 69, 78, 84]⟩
def igN : ByteArray := ⟨#[46, 73, 71, 78, 79, 82, 69]⟩
/-- Is a name marked? -/
def mark (mm : List (ByteArray × MarkS)) (k name : ByteArray) : Bool := match mget mm k with | some p => mhas p.2 name | none => false
def ownR (own : List (ByteArray × RX)) (name : ByteArray) : RuleS := match mget own name with | some x => x.r | none => ⟨[], 0, [], [], 0⟩
def noRX : RX := ⟨.slice none 0 0, .slice none 0 0, .slice none 0 0, ⟨[], 0, [], [], 0⟩⟩
def ownX (own : List (ByteArray × RX)) (name : ByteArray) : RX := (mget own name).getD noRX
theorem ownR_eq (own : List (ByteArray × RX)) (name : ByteArray) : ownR own name = (ownX own name).r := by
  unfold ownR ownX; cases mget own name <;> rfl
theorem mget_mem {κ ν : Type} [DecidableEq κ] {m : List (κ × ν)} {k : κ} {v : ν} (h : mget m k = some v) : v ∈ m.map (·.2) := by
  unfold mget at h
  obtain ⟨p, hp, rfl⟩ := Option.map_eq_some_iff.1 h
  exact List.mem_map.2 ⟨p, List.mem_of_find?_eq_some hp, rfl⟩
/-- What the rule of its own reads as. -/
theorem own_reads (X : BS) (name : ByteArray) {fp : Nat → Prop} {w0 w : World} {F : List Chunk} (HX : Mem fp w0 (X.mem F) w) : Strs w (ownX X.own name).TV (ownX X.own name).r.tg ∧ Strs w (ownX X.own name).SV (ownX X.own name).r.src ∧ Strs w (ownX X.own name).CV (ownX X.own name).r.cmd := by
  unfold ownX
  cases h : mget X.own name with
  | none => exact ⟨strs_nil w, strs_nil w, strs_nil w⟩
  | some x =>
    have hx := mget_mem h
    have key : ∀ c, c ∈ x.own → c.ok w := fun c hc => HX.star.1 c (by
      unfold BS.mem BS.tails Cls
      simp only [List.mem_append, List.mem_flatMap]
      exact .inr (.inl (.inl ⟨x, hx, hc⟩)))
    simp only [Option.getD_some]
    exact ⟨Row.sl (key (StrRow x.TV x.r.tg) (by simp [RX.own])), Row.sl (key (StrRow x.SV x.r.src) (by simp [RX.own])), Row.sl (key (StrRow x.CV x.r.cmd) (by simp [RX.own]))⟩
/-- A map's block, its entries named, as a chunk. -/
def ZC {κ ν : Type} (b : Nat) (kenc : κ → Value) (venc : ν → Value) (m : List (κ × ν)) (es : Array MapEntry) (clk : Nat) : Chunk where
  fp k := k = b
  ok w := MapZ b kenc venc m es clk w
  loc w w' h hw := ⟨(h b rfl).trans hw.hb, hw.he, hw.lt, hw.nd⟩
  lt w k hw hk := by subst hk; exact (Array.getElem?_eq_some_iff.1 hw.hb).1
theorem Mem.swap_ {fp : Nat → Prop} {w0 w : World} {c d : Chunk} {F : List Chunk} (h : Mem fp w0 (c :: F) w) (hd : d.ok w) (hf : ∀ b, d.fp b → c.fp b) : Mem fp w0 (d :: F) w := h.turn (Mut.refl _ _) hd (fun b hb => .inl (hf b hb))
def flagM : List (ByteArray × Nat) := [(phN, 6), (prN, 7), (siN, 8), (igN, 9)]
theorem flagM_put : mput (mput (mput (mput ([] : List (ByteArray × Nat)) phN 6) prN 7) siN 8) igN 9 = flagM := by decide +kernel
theorem flagM_inj : ∀ p q, p ∈ flagM → q ∈ flagM → p.2 = q.2 → p.1 = q.1 := by
  intro p q hp hq h
  simp only [flagM, List.mem_cons, List.not_mem_nil, or_false] at hp hq
  rcases hp with rfl | rfl | rfl | rfl <;> rcases hq with rfl | rfl | rfl | rfl <;> first | rfl | (simp at h)
theorem flagM_val {k : ByteArray} {v : Nat} (h : (k, v) ∈ flagM) : v = 6 ∨ v = 7 ∨ v = 8 ∨ v = 9 := by
  simp only [flagM, List.mem_cons, List.not_mem_nil, or_false, Prod.mk.injEq] at h
  omega
theorem flag_step {fl : ByteArray → Bool} {f : Nat → Bool} {left left' : List (ByteArray × Nat)} {k : ByteArray} {v : Nat} (hs : ∀ p, p ∈ left → p ∈ flagM) (h : ∀ p, p ∈ flagM → p ∈ left ∨ f p.2 = fl p.1) (hp : left.Perm ((k, v) :: left')) :
    (∀ p, p ∈ left' → p ∈ flagM) ∧ ∀ p, p ∈ flagM → p ∈ left' ∨ (if p.2 = v then fl k else f p.2) = fl p.1 := by
  have hkv : (k, v) ∈ flagM := hs _ (hp.mem_iff.2 (by simp))
  refine ⟨fun p hpl => hs p (hp.mem_iff.2 (by simp [hpl])), fun p hpf => ?_⟩
  by_cases e : p.2 = v
  · right
    rw [if_pos e, flagM_inj p (k, v) hpf hkv e]
  · rw [if_neg e]
    rcases h p hpf with h | h
    · rcases List.mem_cons.1 (hp.mem_iff.1 h) with rfl | h
      · exact absurd rfl e
      · exact .inl h
    · exact .inr h
/-- A name's mark, read through the builder's map of maps. -/
theorem mark_reads (X : BS) (k : ByteArray) {fp : Nat → Prop} {w0 w : World} {F : List Chunk} (HX : Mem fp w0 (X.mem F) w) (p : MarkS) (h : mget X.marks k = some p) : (MapC p.1 Value.string setV p.2).ok w := by
  have hx : ∃ q, q ∈ X.marks ∧ q.2 = p := by
    unfold mget at h
    obtain ⟨q, hq, rfl⟩ := Option.map_eq_some_iff.1 h
    exact ⟨q, List.mem_of_find?_eq_some hq, rfl⟩
  obtain ⟨q, hq, rfl⟩ := hx
  exact HX.star.1 (markC q) (by
    unfold BS.mem BS.tails
    simp only [List.mem_append, List.mem_map]
    exact .inr (.inl (.inr (.inl ⟨q, hq, rfl⟩))))
/-- What node hands back: the node, whether something tells how it is made, the links behind. -/
def nodeB (raw : List RuleS) (X : BS) (name : ByteArray) : NodeS × Bool × List (ByteArray × ByteArray) :=
  let r := ownR X.own name
  let ph := mark X.marks phN name
  let im := if r.cmd.length = 0 ∧ ph = false then implB X.suf X.ways X.there X.links name else (⟨#[]⟩, X.links)
  let has := decide (im.1 ≠ ⟨#[]⟩)
  (⟨name, r.kind, if has then srcB (im.1 :: r.src) else srcB r.src, if has then cmdW X.suf raw im.1 name X.ways else r.cmd, [], im.1, ph, mark X.marks prN name, mark X.marks siN name, mark X.marks igN name⟩,
   mhas X.own name || has || ph || mhas X.files name, im.2)
theorem nodeB_not {raw : List RuleS} {X : BS} {name : ByteArray} (h : ¬ ((ownR X.own name).cmd.length = 0 ∧ mark X.marks phN name = false)) :
    nodeB raw X name = (⟨name, (ownR X.own name).kind, srcB (ownR X.own name).src, (ownR X.own name).cmd, [], ⟨#[]⟩, mark X.marks phN name, mark X.marks prN name, mark X.marks siN name, mark X.marks igN name⟩, mhas X.own name || false || mark X.marks phN name || mhas X.files name, X.links) := by
  unfold nodeB
  simp only [if_neg h]
  rw [decide_eq_false (p := (⟨#[]⟩ : ByteArray) ≠ ⟨#[]⟩) (fun h => h rfl)]
  rfl
theorem nodeB_imp {raw : List RuleS} {X : BS} {name im : ByteArray} {L : List (ByteArray × ByteArray)} (h : (ownR X.own name).cmd.length = 0 ∧ mark X.marks phN name = false) (hi : implB X.suf X.ways X.there X.links name = (im, L)) :
    nodeB raw X name = (⟨name, (ownR X.own name).kind, if decide (im ≠ ⟨#[]⟩) then srcB (im :: (ownR X.own name).src) else srcB (ownR X.own name).src, if decide (im ≠ ⟨#[]⟩) then cmdW X.suf raw im name X.ways else (ownR X.own name).cmd, [], im, mark X.marks phN name, mark X.marks prN name, mark X.marks siN name, mark X.marks igN name⟩, mhas X.own name || decide (im ≠ ⟨#[]⟩) || mark X.marks phN name || mhas X.files name, L) := by
  unfold nodeB
  simp only [if_pos h, hi]
theorem lookF (X : BS) {w : World} {name : ByteArray} {fl : Bool} (h : (MapC X.fb Value.string setV X.files).ok w) (hfl : mhas X.files name = fl) :
    (Instr.lookup 61 (.map (some X.fb)) (.string name) false).run Try.prog w = .ok (.bool fl) w := by
  have h1 := MapC.lookup keyS Try.underlying61 (zeroB w) h name false
  rw [if_neg (by decide), set_get, hfl] at h1
  exact h1
theorem mem_in {fp : Nat → Prop} {w0 w : World} {X : BS} {L F : List Chunk} (h : Mem fp w0 (L ++ X.mem F) w) : Mem fp w0 (X.mem (F ++ L)) w := by
  have e : X.mem (F ++ L) = X.mem F ++ L := by unfold BS.mem; simp only [List.append_assoc]
  rw [e]
  exact h.perm List.perm_append_comm
theorem mem_out {fp : Nat → Prop} {w0 w : World} {X : BS} {L F : List Chunk} (h : Mem fp w0 (X.mem (F ++ L)) w) : Mem fp w0 (L ++ X.mem F) w := by
  have e : X.mem (F ++ L) = X.mem F ++ L := by unfold BS.mem; simp only [List.append_assoc]
  rw [e] at h
  exact h.perm List.perm_append_comm
/-- A problem, if there is none yet. -/
def BS.wrong (X : BS) (e : Int) (name : ByteArray) : BS := if X.why = 0 then { X with why := e, pname := name, pat := 0 } else X
set_option maxHeartbeats 8000000 in
theorem wrong_calls (X : BS) (e : Int) (name : ByteArray) {fp : Nat → Prop} {w0 : World} {F : List Chunk} (w : World) (HX : Mem fp w0 (X.mem F) w) :
    Calls Try.prog 46 #[.pointer (some ⟨X.b, 0, none⟩), .int .i64 e, .string name] w fun en w' => en = .returned (.tuple #[]) ∧ Mem fp w0 ((X.wrong e name).mem F) w' := by
  have hb := HX.at_ 0 rfl
  have k11 : w.cell? ⟨X.b, 11, none⟩ = some (.int .i64 X.why) := Blk.cell_ hb 11
  have k12 : w.cell? ⟨X.b, 12, none⟩ = some (.string X.pname) := Blk.cell_ hb 12
  have k13 : w.cell? ⟨X.b, 13, none⟩ = some (.int .i64 X.pat) := Blk.cell_ hb 13
  have f11 := Blk.frozen hb 11
  have f12 := Blk.frozen hb 12
  have f13 := Blk.frozen hb 13
  have HM := Lib.hid HX
  clear hb HX
  unfold BS.wrong
  by_cases h : X.why = 0
  · have h1 : (X.why == 0) = true := by rw [beq_iff_eq]; exact h
    have h2 : decide (X.why = 0) = true := decide_eq_true h
    rw [if_pos h]
    clear h
    go_enter Try.func46, Try.ntmps46
    go_wp2_with fail
    go_end0
    exact ⟨rfl, ((HM.out.blkSet 11 (.int .i64 e)).blkSet 12 (.string name)).blkSet 13 (.int .i64 0)⟩
  · have h1 : (X.why == 0) = false := by rw [beq_eq_false_iff_ne]; exact h
    have h2 : decide (X.why = 0) = false := decide_eq_false h
    rw [if_neg h]
    clear h
    go_enter Try.func46, Try.ntmps46
    go_wp2_with fail
    go_end0
    exact ⟨rfl, HM.out⟩
end Go.Proofs.Ytliglejbkpjamaa
