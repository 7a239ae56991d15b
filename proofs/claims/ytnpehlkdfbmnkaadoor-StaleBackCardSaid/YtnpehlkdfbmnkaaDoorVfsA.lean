/-
  The store in memory, and the small calls: ok, where, find.
-/
import Derived.Test.YtnpehlkdfbmnkaaDoorVfsP
import Derived.Test.YtnpehlkdfbmnkaaDoorPthH
import Derived.Laws.LoneSync
set_option linter.unusedVariables false
set_option linter.unusedSimpArgs false
set_option maxRecDepth 20000
namespace Go.Proofs.YtnpehlkdfbmnkaaDoor
open Go.RowKit

def kL (k : List UInt8) : Value := .string (ofL k)
def vF (f : VF) : Value := .agg #[.string (ofL f.text), .int .i64 f.time, .bool f.dir]
theorem keyL {P : Program} {kt : TypeId} (hk : P.underlying kt = some .string) : KeyOk P kt kL where
  check empty k w := (keyStr hk).check empty (ofL k) w
  find k es ks w h := by
    have := (keyStr hk).find (ofL k) es (ks.map ofL) w (by rw [h, List.map_map]; rfl)
    unfold kL
    rw [this, List.findIdx?_map]
    have e : ((fun x => decide (ofL k = x)) ∘ ofL) = fun x => decide (k = x) := by
      funext x
      simp only [Function.comp_def, decide_eq_decide]
      exact ⟨fun e => ofL_inj e, fun e => by rw [e]⟩
    rw [e]
  bits k := (keyStr hk).bits (ofL k)
/-- What is noted: kinds and paths. -/
def tch (l : List (Int × List UInt8)) : List Value := l.flatMap fun x => [.int .i64 x.1, .string (ofL x.2)]
abbrev NRow (v : Value) (l : List (Int × List UInt8)) : Chunk := Row 106 2 v l.length (tch l)
/-- A store: its block, its files, its notes. -/
def StoreF (sb mb : Nat) (nv : Value) (s : St) : List Chunk :=
  [Blk sb 94 #[.int .i64 s.room, .int .i64 s.used, .int .i64 s.clock, .map (some mb), .bool s.noting, nv], MapC mb kL vF s.files, NRow nv s.notes]
abbrev StoreC (sb mb : Nat) (nv : Value) (s : St) : Chunk := Many (StoreF sb mb nv s)
abbrev ptr (sb : Nat) : Value := .pointer (some ⟨sb, 0, none⟩)

section
variable {sb mb : Nat} {nv : Value} {s : St} {w : World}
theorem StoreC.mem (h : (StoreC sb mb nv s).ok w) : Mem (StoreC sb mb nv s).fp w (StoreF sb mb nv s) w := by
  have := (Mem.from h).open_
  simpa using this
theorem StoreC.blk (h : (StoreC sb mb nv s).ok w) : (Blk sb 94 #[.int .i64 s.room, .int .i64 s.used, .int .i64 s.clock, .map (some mb), .bool s.noting, nv]).ok w := (StoreC.mem h).at_ 0 rfl
theorem StoreC.map_ (h : (StoreC sb mb nv s).ok w) : (MapC mb kL vF s.files).ok w := (StoreC.mem h).at_ 1 rfl
theorem StoreC.row (h : (StoreC sb mb nv s).ok w) : (NRow nv s.notes).ok w := (StoreC.mem h).at_ 2 rfl

theorem StoreC.c0 (h : (StoreC sb mb nv s).ok w) : w.cell? ⟨sb, 0, none⟩ = some (.int .i64 s.room) := by rw [Blk.cell_ (StoreC.blk h)]; rfl
theorem StoreC.c1 (h : (StoreC sb mb nv s).ok w) : w.cell? ⟨sb, 1, none⟩ = some (.int .i64 s.used) := by rw [Blk.cell_ (StoreC.blk h)]; rfl
theorem StoreC.c2 (h : (StoreC sb mb nv s).ok w) : w.cell? ⟨sb, 2, none⟩ = some (.int .i64 s.clock) := by rw [Blk.cell_ (StoreC.blk h)]; rfl
theorem StoreC.c3 (h : (StoreC sb mb nv s).ok w) : w.cell? ⟨sb, 3, none⟩ = some (.map (some mb)) := by rw [Blk.cell_ (StoreC.blk h)]; rfl
theorem StoreC.c4 (h : (StoreC sb mb nv s).ok w) : w.cell? ⟨sb, 4, none⟩ = some (.bool s.noting) := by rw [Blk.cell_ (StoreC.blk h)]; rfl
theorem StoreC.c5 (h : (StoreC sb mb nv s).ok w) : w.cell? ⟨sb, 5, none⟩ = some nv := by rw [Blk.cell_ (StoreC.blk h)]; rfl

theorem wt_mem {x : List UInt8} : ∀ {l : List (List UInt8)}, x ∈ l → x.length + 1 ≤ wt l
  | [], h => by cases h
  | y :: l, h => by
    rw [wt_cons]
    rcases List.mem_cons.1 h with rfl | h
    · omega
    · have := wt_mem h; omega
theorem neq_map (mb : Nat) (w : World) : (binOp .neq 92 (.map (some mb)) (.map none)).run Tryd.prog w = .ok (.bool true) w := by
  have h : (Op.equalIn (9999 + 1) 92 (.map (some mb)) (.map none)).run Tryd.prog w = .ok false w := by
    unfold Op.equalIn
    simp [run_underlying Tryd.underlying92, go_sem]
  have h' : (Op.equalIn Op.maxDepth 92 (.map (some mb)) (.map none)).run Tryd.prog w = .ok false w := h
  simp [binOp, Op.equal, h']
theorem ok_calls (h : (StoreC sb mb nv s).ok w) :
    Calls Tryd.prog 43 #[ptr sb] w fun e w' => e = .returned (.bool true) ∧ w = w' := by
  have c3 := StoreC.c3 h
  clear h
  have hne := neq_map mb
  go_enter Tryd.func43, Tryd.ntmps43
  go_wp2
  go_ret
  exact ⟨rfl, rfl⟩

set_option maxHeartbeats 2000000 in
theorem where_calls (h : (StoreC sb mb nv s).ok w) (p : List UInt8) (hp : p.length ≤ 150000) :
    Calls Tryd.prog 71 #[ptr sb, .string (ofL p)] w fun e w' =>
      e = .returned (.tuple #[.string (ofL (whereQ p)), .int .i64 (whereE p)]) ∧ Mem none_ w [] w' := by
  have hO := ok_calls h
  have hcl := clean_len (47 :: p)
  rw [List.length_cons] at hcl
  have hC := pclean_calls (47 :: p) w (by rw [List.length_cons]; omega)
  have hap : ∀ wx, (Op.stringOp .add ⟨#[47]⟩ (ofL p)).run Tryd.prog wx = .ok (.string (ofL (47 :: p))) wx := add_run [47] p (by simp; omega)
  have hPa := fun wx => pparts_calls (cleanL (47 :: p)) wx (by omega)
  have hlw := Nat.le_trans (len_wt (partsL (cleanL (47 :: p)))) (wt_parts (cleanL (47 :: p)))
  have hlm : ∀ x, x ∈ partsL (cleanL (47 :: p)) → x.length ≤ 1000000 := fun x hx => by
    have := wt_mem hx
    have := wt_parts (cleanL (47 :: p))
    omega
  have HN : Hid (∀ x, x ∈ partsL (cleanL (47 :: p)) → 255 < x.length → whereQ p = [] ∧ whereE p = 1) := fun x hx hl => by
    have : whereL p = none := by
      unfold whereL
      rw [if_neg]
      intro hc
      have := of_decide_eq_true (List.all_eq_true.1 hc x hx)
      omega
    unfold whereQ whereE
    rw [this]
    exact ⟨rfl, rfl⟩
  have HY : Hid ((∀ x, x ∈ partsL (cleanL (47 :: p)) → x.length ≤ 255) → whereQ p = cleanL (47 :: p) ∧ whereE p = 0) := fun hl => by
    have : whereL p = some (cleanL (47 :: p)) := by
      unfold whereL
      rw [if_pos]
      exact List.all_eq_true.2 (fun x hx => decide_eq_true (hl x hx))
    unfold whereQ whereE
    rw [this]
    exact ⟨rfl, rfl⟩
  generalize whereQ p = Q at *
  generalize whereE p = E at *
  generalize partsL (cleanL (47 :: p)) = L at *
  generalize cleanL (47 :: p) = C at *
  clear h
  go_enter Tryd.func71, Tryd.ntmps71
  go_wp2_with fail
  refine hO.mono ?_
  rintro e w1 ⟨rfl, rfl⟩
  clear hO
  go_wp2_with fail
  refine hC.mono ?_
  rintro e w1 ⟨rfl, HM1⟩
  clear hC hap
  have hPb := hPa w1
  clear hPa
  go_wp2_with fail
  refine hPb.mono ?_
  rintro e w2 ⟨v, rfl, HM2⟩
  clear hPb
  have HM3 := (HM1.got HM2).sel [] (by decide)
  obtain ⟨A, c, rfl, h1, h2, h3, h4⟩ := Row.sl (HM2.at_ 0 rfl)
  clear HM1 HM2
  unfold maxLen at h2
  go_wp2_with fail
  go_loop [7, 17] (fun v7 v17 => ∃ k : Nat, k ≤ L.length ∧ v17 = .int .i64 k ∧ ∀ x, x ∈ L.take k → x.length ≤ 255) (fun _ v => L.length - (intOf v).toNat)
  case atStart => exact ⟨0, Nat.zero_le _, rfl, fun x hx => by cases hx⟩
  case round =>
    obtain ⟨k, hk, rfl, hall⟩ := hrel
    by_cases hlt : k < L.length
    · have hlt' : decide ((k : Int) < (L.length : Int)) = true := decide_eq_true (by omega)
      obtain ⟨b, o, rfl, hcells⟩ := h4.resolve_left (by omega)
      have hx0 : w2.cell? ⟨b, o + k, none⟩ = some (.string (ofL L[k])) := hcells k _ (tx_get hlt)
      have hxs := ofL_size L[k]
      have hxm := hlm L[k] (List.getElem_mem hlt)
      have HS : Hid (L.take (k + 1) = L.take k ++ [L[k]]) := List.take_succ_eq_append_getElem hlt
      have Hm : Hid (L[k] ∈ L) := List.getElem_mem hlt
      clear hcells h4 h3 hlm
      generalize L[k] = x at *
      by_cases hx : 255 < x.length
      · have dx : decide ((255 : Int) < (x.length : Int)) = true := decide_eq_true (by omega)
        go_wp2_with fail
        refine bodyPost_ret (v := .tuple #[.string ⟨#[]⟩, .int .i64 1]) (by simp [results, Tryd.results71, go_sem]) rfl ⟨?_, HM3⟩
        rw [(HN.out x Hm.out hx).1, (HN.out x Hm.out hx).2]; rfl
      · have dx : decide ((255 : Int) < (x.length : Int)) = false := decide_eq_false (by omega)
        go_wp2_with fail
        go_round
        case rel =>
          refine ⟨k + 1, by omega, by go_num, fun y hy => ?_⟩
          rw [HS.out] at hy
          rcases List.mem_append.1 hy with hy | hy
          · exact hall y hy
          · rw [List.mem_singleton.1 hy]; omega
        case measure => simp [intOf]; omega
    · have e : k = L.length := by omega
      subst e
      rw [List.take_length] at hall
      have HT := HY.out hall
      obtain ⟨q1, q2⟩ := HT
      have Q1 := Lib.hid q1
      have Q2 := Lib.hid q2
      clear hall q1 q2
      go_wp2_with fail
      refine bodyPost_ret (v := .tuple #[.string (ofL C), .int .i64 0]) (by simp [results, Tryd.results71, go_sem]) rfl ⟨?_, HM3⟩
      rw [Q1.out, Q2.out]
end
end Go.Proofs.YtnpehlkdfbmnkaaDoor
