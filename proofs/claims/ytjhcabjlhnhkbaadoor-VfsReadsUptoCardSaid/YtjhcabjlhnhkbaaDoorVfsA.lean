/-
  The store in memory, and the small calls: ok, where, find.
  The store's calls: find, Stat, home.
  The store's calls: home.
-/
import Derived.Test.YtjhcabjlhnhkbaaDoorVfsP
import Derived.Test.YtjhcabjlhnhkbaaDoorPthH
import Derived.Laws.LoneSync
import Derived.Test.YtjhcabjlhnhkbaaDoorForkP
set_option linter.unusedVariables false
set_option linter.unusedSimpArgs false
namespace Go.Proofs.YtjhcabjlhnhkbaaDoor
section
set_option maxRecDepth 20000
open Go.RowKit

def kL (k : List UInt8) : Value := .string (ofL k)
def vF (f : VF) : Value := .agg #[.string (ofL f.text), .int .i64 f.time, .bool f.dir]
theorem keyL {P : Program} {kt : TypeId} (hk : P.underlying kt = some .string) : KeyOk P kt kL where
  check empty k w := (keyStr hk).check empty (ofL k) w
  find k es ks w h := by
    have := (keyStr hk).find (ofL k) es (ks.map ofL) w (by rw [h, List.map_map]; rfl)
    unfold kL
    rw [this, List.findIdx?_map]
    have e : ((fun x => decide (ofL k = x)) ∘ ofL) = fun x => decide (k = x) := by
      funext x
      simp only [Function.comp_def, decide_eq_decide]
      exact ⟨fun e => ofL_inj e, fun e => by rw [e]⟩
    rw [e]
  bits k := (keyStr hk).bits (ofL k)
/-- What is noted: kinds and paths. -/
def tch (l : List (Int × List UInt8)) : List Value := l.flatMap fun x => [.int .i64 x.1, .string (ofL x.2)]
abbrev NRow (v : Value) (l : List (Int × List UInt8)) : Chunk := Row 89 2 v l.length (tch l)
/-- A store: its block, its files, its notes. -/
def StoreF (sb mb : Nat) (nv : Value) (s : St) : List Chunk :=
  [Blk sb 58 #[.int .i64 s.room, .int .i64 s.used, .int .i64 s.clock, .map (some mb), .bool s.noting, nv], MapC mb kL vF s.files, NRow nv s.notes]
abbrev StoreC (sb mb : Nat) (nv : Value) (s : St) : Chunk := Many (StoreF sb mb nv s)
abbrev ptr (sb : Nat) : Value := .pointer (some ⟨sb, 0, none⟩)

section
variable {sb mb : Nat} {nv : Value} {s : St} {w : World}
theorem StoreC.mem (h : (StoreC sb mb nv s).ok w) : Mem (StoreC sb mb nv s).fp w (StoreF sb mb nv s) w := by
  have := (Mem.from h).open_
  simpa using this
theorem StoreC.blk (h : (StoreC sb mb nv s).ok w) : (Blk sb 58 #[.int .i64 s.room, .int .i64 s.used, .int .i64 s.clock, .map (some mb), .bool s.noting, nv]).ok w := (StoreC.mem h).at_ 0 rfl
theorem StoreC.map_ (h : (StoreC sb mb nv s).ok w) : (MapC mb kL vF s.files).ok w := (StoreC.mem h).at_ 1 rfl
theorem StoreC.row (h : (StoreC sb mb nv s).ok w) : (NRow nv s.notes).ok w := (StoreC.mem h).at_ 2 rfl

theorem StoreC.c0 (h : (StoreC sb mb nv s).ok w) : w.cell? ⟨sb, 0, none⟩ = some (.int .i64 s.room) := by rw [Blk.cell_ (StoreC.blk h)]; rfl
theorem StoreC.c1 (h : (StoreC sb mb nv s).ok w) : w.cell? ⟨sb, 1, none⟩ = some (.int .i64 s.used) := by rw [Blk.cell_ (StoreC.blk h)]; rfl
theorem StoreC.c2 (h : (StoreC sb mb nv s).ok w) : w.cell? ⟨sb, 2, none⟩ = some (.int .i64 s.clock) := by rw [Blk.cell_ (StoreC.blk h)]; rfl
theorem StoreC.c3 (h : (StoreC sb mb nv s).ok w) : w.cell? ⟨sb, 3, none⟩ = some (.map (some mb)) := by rw [Blk.cell_ (StoreC.blk h)]; rfl
theorem StoreC.c4 (h : (StoreC sb mb nv s).ok w) : w.cell? ⟨sb, 4, none⟩ = some (.bool s.noting) := by rw [Blk.cell_ (StoreC.blk h)]; rfl
theorem StoreC.c5 (h : (StoreC sb mb nv s).ok w) : w.cell? ⟨sb, 5, none⟩ = some nv := by rw [Blk.cell_ (StoreC.blk h)]; rfl

theorem wt_mem {x : List UInt8} : ∀ {l : List (List UInt8)}, x ∈ l → x.length + 1 ≤ wt l
  | [], h => by cases h
  | y :: l, h => by
    rw [wt_cons]
    rcases List.mem_cons.1 h with rfl | h
    · omega
    · have := wt_mem h; omega
theorem neq_map (mb : Nat) (w : World) : (binOp .neq 51 (.map (some mb)) (.map none)).run Tryd.prog w = .ok (.bool true) w := by
  have h : (Op.equalIn (9999 + 1) 51 (.map (some mb)) (.map none)).run Tryd.prog w = .ok false w := by
    unfold Op.equalIn
    simp [run_underlying Tryd.underlying51, go_sem]
  have h' : (Op.equalIn Op.maxDepth 51 (.map (some mb)) (.map none)).run Tryd.prog w = .ok false w := h
  simp [binOp, Op.equal, h']
theorem ok_calls (h : (StoreC sb mb nv s).ok w) :
    Calls Tryd.prog 22 #[ptr sb] w fun e w' => e = .returned (.bool true) ∧ w = w' := by
  have c3 := StoreC.c3 h
  clear h
  have hne := neq_map mb
  go_enter Tryd.func22, Tryd.ntmps22
  go_wp2
  go_ret
  exact ⟨rfl, rfl⟩

set_option maxHeartbeats 2000000 in
theorem where_calls (h : (StoreC sb mb nv s).ok w) (p : List UInt8) (hp : p.length ≤ 1100000) :
    Calls Tryd.prog 44 #[ptr sb, .string (ofL p)] w fun e w' =>
      e = .returned (.tuple #[.string (ofL (whereQ p)), .int .i64 (whereE p)]) ∧ Mem none_ w [] w' := by
  have hO := ok_calls h
  have hcl := clean_len (47 :: p)
  rw [List.length_cons] at hcl
  have hC := pclean_calls (47 :: p) w (by rw [List.length_cons]; omega)
  have hap : ∀ wx, (Op.stringOp .add ⟨#[47]⟩ (ofL p)).run Tryd.prog wx = .ok (.string (ofL (47 :: p))) wx := add_run [47] p (by simp; omega)
  have hPa := fun wx => pparts_calls (cleanL (47 :: p)) wx (by omega)
  have hlw := Nat.le_trans (len_wt (partsL (cleanL (47 :: p)))) (wt_parts (cleanL (47 :: p)))
  have hlm : ∀ x, x ∈ partsL (cleanL (47 :: p)) → x.length ≤ 9000000 := fun x hx => by
    have := wt_mem hx
    have := wt_parts (cleanL (47 :: p))
    omega
  have HN : Hid (∀ x, x ∈ partsL (cleanL (47 :: p)) → 255 < x.length → whereQ p = [] ∧ whereE p = 1) := fun x hx hl => by
    have : whereL p = none := by
      unfold whereL
      rw [if_neg]
      intro hc
      have := of_decide_eq_true (List.all_eq_true.1 hc x hx)
      omega
    unfold whereQ whereE
    rw [this]
    exact ⟨rfl, rfl⟩
  have HY : Hid ((∀ x, x ∈ partsL (cleanL (47 :: p)) → x.length ≤ 255) → whereQ p = cleanL (47 :: p) ∧ whereE p = 0) := fun hl => by
    have : whereL p = some (cleanL (47 :: p)) := by
      unfold whereL
      rw [if_pos]
      exact List.all_eq_true.2 (fun x hx => decide_eq_true (hl x hx))
    unfold whereQ whereE
    rw [this]
    exact ⟨rfl, rfl⟩
  generalize whereQ p = Q at *
  generalize whereE p = E at *
  generalize partsL (cleanL (47 :: p)) = L at *
  generalize cleanL (47 :: p) = C at *
  clear h
  go_enter Tryd.func44, Tryd.ntmps44
  go_wp2_with fail
  refine hO.mono ?_
  rintro e w1 ⟨rfl, rfl⟩
  clear hO
  go_wp2_with fail
  refine hC.mono ?_
  rintro e w1 ⟨rfl, HM1⟩
  clear hC hap
  have hPb := hPa w1
  clear hPa
  go_wp2_with fail
  refine hPb.mono ?_
  rintro e w2 ⟨v, rfl, HM2⟩
  clear hPb
  have HM3 := (HM1.got HM2).sel [] (by decide)
  obtain ⟨A, c, rfl, h1, h2, h3, h4⟩ := Row.sl (HM2.at_ 0 rfl)
  clear HM1 HM2
  unfold maxLen at h2
  go_wp2_with fail
  go_loop [7, 17] (fun v7 v17 => ∃ k : Nat, k ≤ L.length ∧ v17 = .int .i64 k ∧ ∀ x, x ∈ L.take k → x.length ≤ 255) (fun _ v => L.length - (intOf v).toNat)
  case atStart => exact ⟨0, Nat.zero_le _, rfl, fun x hx => by cases hx⟩
  case round =>
    obtain ⟨k, hk, rfl, hall⟩ := hrel
    by_cases hlt : k < L.length
    · have hlt' : decide ((k : Int) < (L.length : Int)) = true := decide_eq_true (by omega)
      obtain ⟨b, o, rfl, hcells⟩ := h4.resolve_left (by omega)
      have hx0 : w2.cell? ⟨b, o + k, none⟩ = some (.string (ofL L[k])) := hcells k _ (tx_get hlt)
      have hxs := ofL_size L[k]
      have hxm := hlm L[k] (List.getElem_mem hlt)
      have HS : Hid (L.take (k + 1) = L.take k ++ [L[k]]) := List.take_succ_eq_append_getElem hlt
      have Hm : Hid (L[k] ∈ L) := List.getElem_mem hlt
      clear hcells h4 h3 hlm
      generalize L[k] = x at *
      by_cases hx : 255 < x.length
      · have dx : decide ((255 : Int) < (x.length : Int)) = true := decide_eq_true (by omega)
        go_wp2_with fail
        refine bodyPost_ret (v := .tuple #[.string ⟨#[]⟩, .int .i64 1]) (by simp [results, Tryd.results44, go_sem]) rfl ⟨?_, HM3⟩
        rw [(HN.out x Hm.out hx).1, (HN.out x Hm.out hx).2]; rfl
      · have dx : decide ((255 : Int) < (x.length : Int)) = false := decide_eq_false (by omega)
        go_wp2_with fail
        go_round
        case rel =>
          refine ⟨k + 1, by omega, by go_num, fun y hy => ?_⟩
          rw [HS.out] at hy
          rcases List.mem_append.1 hy with hy | hy
          · exact hall y hy
          · rw [List.mem_singleton.1 hy]; omega
        case measure => simp [intOf]; omega
    · have e : k = L.length := by omega
      subst e
      rw [List.take_length] at hall
      have HT := HY.out hall
      obtain ⟨q1, q2⟩ := HT
      have Q1 := Lib.hid q1
      have Q2 := Lib.hid q2
      clear hall q1 q2
      go_wp2_with fail
      refine bodyPost_ret (v := .tuple #[.string (ofL C), .int .i64 0]) (by simp [results, Tryd.results44, go_sem]) rfl ⟨?_, HM3⟩
      rw [Q1.out, Q2.out]
end
end
section
set_option maxRecDepth 20000
open Go.RowKit

def fcs (f : VF) : Array Value := #[.string (ofL f.text), .int .i64 f.time, .bool f.dir]
abbrev FBlk (b : Nat) (f : VF) : Chunk := Blk b 50 (fcs f)
theorem FBlk.g0 {b : Nat} {f : VF} {w : World} (h : (FBlk b f).ok w) : w.cell? ⟨b, 0, none⟩ = some (.string (ofL f.text)) := by rw [Blk.cell_ h]; rfl
theorem FBlk.g1 {b : Nat} {f : VF} {w : World} (h : (FBlk b f).ok w) : w.cell? ⟨b, 1, none⟩ = some (.int .i64 f.time) := by rw [Blk.cell_ h]; rfl
theorem FBlk.g2 {b : Nat} {f : VF} {w : World} (h : (FBlk b f).ok w) : w.cell? ⟨b, 2, none⟩ = some (.bool f.dir) := by rw [Blk.cell_ h]; rfl
theorem Mem.fset {fp : Nat → Prop} {w0 w : World} {F : List Chunk} {b : Nat} {f : VF} (h : Mem fp w0 (FBlk b f :: F) w) (g : VF) :
    Mem fp w0 (FBlk b g :: F) (((w.setCell ⟨b, 0, none⟩ (.string (ofL g.text))).setCell ⟨b, 1, none⟩ (.int .i64 g.time)).setCell ⟨b, 2, none⟩ (.bool g.dir)) :=
  ((h.blkSet 0 _).blkSet 1 _).blkSet 2 _
theorem Mem.fbox {fp : Nat → Prop} {w0 w : World} {F : List Chunk} (h : Mem fp w0 F w) (f : VF) : Mem fp w0 (FBlk w.heap.size f :: F) (w.alloc (.cells #[.string (ofL f.text), .int .i64 f.time, .bool f.dir] 50)) := h.box _ _
theorem zeroF (w : World) : (zeroValue 50).run Tryd.prog w = .ok (vF VF.zero) w := Tryd.zeroValue50 w

section
variable {sb mb : Nat} {nv : Value} {s : St} {w : World}
set_option maxHeartbeats 4000000 in
theorem find_calls (h : (StoreC sb mb nv s).ok w) (p : List UInt8) (hp : p.length ≤ 1100000) :
    Calls Tryd.prog 30 #[ptr sb, .string (ofL p)] w fun e w' =>
      e = .returned (.tuple #[.string (ofL (findS s p).1), vF (findS s p).2.1, .int .i64 (findS s p).2.2]) ∧ Mem none_ w [] w' := by
  have HM0 := (Mem.start (fp := none_) w).fbox VF.zero
  have hW := fun wx (hx : (StoreC sb mb nv s).ok wx) => where_calls hx p hp
  obtain ⟨⟨Rq, Rf, Re⟩, hR⟩ : ∃ R, findS s p = R := ⟨_, rfl⟩
  rw [hR]
  have HR := Lib.hid hR
  clear hR
  have hmap := StoreC.map_ h
  have hc3 := StoreC.c3 h
  have K := keyL (P := Tryd.prog) Tryd.underlying9
  go_enter Tryd.func30, Tryd.ntmps30
  go_wp2_with fail
  have hW1 := hW _ (Pure.chunk HM0.mu h)
  clear hW
  have hWe : w.alloc (.cells #[.string (ofL VF.zero.text), .int .i64 VF.zero.time, .bool VF.zero.dir] 50) = w.alloc (.cells #[.string ⟨#[]⟩, .int .i64 0, .bool false] 50) := rfl
  rw [hWe] at HM0 hW1
  generalize w.alloc _ = W1 at *
  refine hW1.mono ?_
  rintro e w1 ⟨rfl, HM1⟩
  have HM2 := HM0.got HM1
  simp only [List.nil_append] at HM2
  have hC := Pure.chunk HM2.mu h
  clear hW1 HM1 HM0 hWe
  cases hq : whereL p with
  | none =>
    have g0 := FBlk.g0 (HM2.at_ 0 rfl)
    have g1 := FBlk.g1 (HM2.at_ 0 rfl)
    have g2 := FBlk.g2 (HM2.at_ 0 rfl)
    have z0 := Blk.frozen (HM2.at_ 0 rfl) 0
    have z1 := Blk.frozen (HM2.at_ 0 rfl) 1
    have z2 := Blk.frozen (HM2.at_ 0 rfl) 2
    have e1 : whereE p = 1 := by unfold whereE; rw [hq]; rfl
    have HE : Hid ((Rq, Rf, Re) = ([], VF.zero, 1)) := by unfold Hid; rw [← HR.out]; unfold findS; rw [hq]
    rw [e1]
    clear hmap hc3 HR e1 hC h
    go_wp2_with fail
    clear g0 g1 g2 z0 z1 z2
    have HM3 := (HM2.fset VF.zero)
    have g0 := FBlk.g0 (HM3.at_ 0 rfl)
    have g1 := FBlk.g1 (HM3.at_ 0 rfl)
    have g2 := FBlk.g2 (HM3.at_ 0 rfl)
    have HM4 := HM3.sel [] (by decide)
    clear HM2 HM3
    have hWe : ((w1.setCell ⟨w.heap.size, 0, none⟩ (.string (ofL VF.zero.text))).setCell ⟨w.heap.size, 1, none⟩ (.int .i64 VF.zero.time)).setCell ⟨w.heap.size, 2, none⟩ (.bool VF.zero.dir) = ((w1.setCell ⟨w.heap.size, 0, none⟩ (.string ⟨#[]⟩)).setCell ⟨w.heap.size, 1, none⟩ (.int .i64 0)).setCell ⟨w.heap.size, 2, none⟩ (.bool false) := rfl
    rw [hWe] at g0 g1 g2 HM4
    generalize World.setCell _ _ _ = W2 at *
    have q := HE.out
    simp only [Prod.mk.injEq] at q
    obtain ⟨q1, q2, q3⟩ := q
    subst q1 q2 q3
    exact bodyPost_ret (v := .tuple #[.string ⟨#[]⟩, vF VF.zero, .int .i64 1]) (by simp [results, Tryd.results30, go_sem, g0, g1, g2, vF]) rfl ⟨rfl, HM4⟩
  | some q =>
    have e1 : whereE p = 0 := by unfold whereE; rw [hq]; rfl
    have e2 : whereQ p = q := by unfold whereQ; rw [hq]; rfl
    have HE : Hid ((Rq, Rf, Re) = match mget s.files q with | none => (q, VF.zero, 6) | some f => (q, f, 0)) := by unfold Hid; rw [← HR.out]; unfold findS; rw [hq]; rfl
    rw [e1, e2]
    have hmap := StoreC.map_ hC
    have hc3 := StoreC.c3 hC
    clear HR e1 e2 h hC
    obtain ⟨f, hf⟩ : ∃ f, (mget s.files q).getD VF.zero = f := ⟨_, rfl⟩
    have Hf := Lib.hid hf
    obtain ⟨ok, hok⟩ : ∃ ok, mhas s.files q = ok := ⟨_, rfl⟩
    have Hok := Lib.hid hok
    have hr : (if true = true then Value.tuple #[((mget s.files q).map vF).getD (vF VF.zero), .bool (mhas s.files q)] else ((mget s.files q).map vF).getD (vF VF.zero)) = .tuple #[.agg #[.string (ofL f.text), .int .i64 f.time, .bool f.dir], .bool ok] := by
      rw [if_pos rfl, hok, ← hf]
      cases mget s.files q <;> rfl
    clear hf hok
    have HM4 := ((HM2.fbox f).sel [1, 0] (by decide))
    simp only [List.filterMap_cons, List.filterMap_nil, List.getElem?_cons_succ, List.getElem?_cons_zero] at HM4
    have HM4' := Lib.hid HM4
    have a0 := FBlk.g0 (HM4.at_ 0 rfl)
    have a1 := FBlk.g1 (HM4.at_ 0 rfl)
    have a2 := FBlk.g2 (HM4.at_ 0 rfl)
    have b0 := Blk.frozen (HM4.at_ 0 rfl) 0
    have b1 := Blk.frozen (HM4.at_ 0 rfl) 1
    have b2 := Blk.frozen (HM4.at_ 0 rfl) 2
    clear HM4
    have HE2 : Hid (Rq = q ∧ ((ok = true ∧ Rf = f ∧ Re = 0) ∨ (ok = false ∧ Rf = VF.zero ∧ Re = 6))) := by
      unfold Hid
      have := HE.out
      rw [← Hok.out, ← Hf.out]
      unfold mhas
      cases hm : mget s.files q with
      | none => rw [hm] at this; simp only [Prod.mk.injEq] at this; exact ⟨this.1, .inr ⟨rfl, this.2⟩⟩
      | some f => rw [hm] at this; simp only [Prod.mk.injEq] at this; exact ⟨this.1, .inl ⟨rfl, this.2⟩⟩
    clear HE Hok Hf
    cases ok with
    | false =>
      go_wp2_with (at_lookup; refine wpList_get K Tryd.underlying51 zeroF rfl _ _ true rfl hmap rfl q rfl _ hr ?_)
      have HM5 := HM4'.out.fset VF.zero
      have g0 := FBlk.g0 (HM5.at_ 0 rfl)
      have g1 := FBlk.g1 (HM5.at_ 0 rfl)
      have g2 := FBlk.g2 (HM5.at_ 0 rfl)
      have HM6 := HM5.sel [] (by decide)
      clear HM5 HM4' a0 a1 a2 b0 b1 b2
      have ez : (.string (ofL VF.zero.text) : Value) = .string ⟨#[]⟩ := rfl
      have ez1 : VF.zero.time = 0 := rfl
      have ez2 : VF.zero.dir = false := rfl
      rw [ez, ez1, ez2] at g0 g1 g2 HM6
      generalize World.setCell _ _ _ = W2 at *
      obtain ⟨q1, q2⟩ := HE2.out
      obtain ⟨q2, q3, q4⟩ := q2.resolve_left (by rintro ⟨e, _⟩; cases e)
      subst q1 q3 q4
      exact bodyPost_ret (v := .tuple #[.string (ofL Rq), vF VF.zero, .int .i64 6]) (by simp [results, Tryd.results30, go_sem, g0, g1, g2, vF, ez1, ez2]; rfl) rfl ⟨rfl, HM6⟩
    | true =>
      go_wp2_with (at_lookup; refine wpList_get K Tryd.underlying51 zeroF rfl _ _ true rfl hmap rfl q rfl _ hr ?_)
      have HM5 := HM4'.out.drew
      clear HM4' a0 a1 a2 b0 b1 b2 hr hmap hc3
      have a0 := FBlk.g0 (HM5.at_ 0 rfl)
      have a1 := FBlk.g1 (HM5.at_ 0 rfl)
      have a2 := FBlk.g2 (HM5.at_ 0 rfl)
      have b0 := Blk.frozen (HM5.at_ 0 rfl) 0
      have b1 := Blk.frozen (HM5.at_ 0 rfl) 1
      have b2 := Blk.frozen (HM5.at_ 0 rfl) 2
      have d0 := FBlk.g0 (HM5.at_ 1 rfl)
      have d1 := FBlk.g1 (HM5.at_ 1 rfl)
      have d2 := FBlk.g2 (HM5.at_ 1 rfl)
      refine wp_plan [3] (S := fun w' => w' = World.drew _) [(.pure, 0), (.load, 1), (.pure, 2), (.tail, 3), (.pure, 4)] (by kernel_rfl) rfl (by kernel_rfl) rfl (fun _ _ _ _ _ h => h) rfl ?_
      generalize World.drew _ = W at *
      repeat (first | (refine plan_pure (v := ?_) (a' := ?_) rfl rfl rfl ?_ ?_ ?_; rotate_left 2; (focus (intro w'; go_simp; with_reducible rfl)); (focus (simp only [Act.put, List.setIfInBounds_toArray, List.set_cons_zero, List.set_cons_succ]; rfl))) | (refine plan_load (v := ?_) (a' := ?_) rfl rfl rfl ?_ ?_ ?_; rotate_left 2; (focus (intro w' hw'; rw [hw']; go_simp; with_reducible rfl)); (focus (simp only [Act.put, List.setIfInBounds_toArray, List.set_cons_zero, List.set_cons_succ]; rfl))) | (refine plan_skip rfl rfl (by decide +kernel) (by simp only [Act.put, List.setIfInBounds_toArray, List.set_cons_zero, List.set_cons_succ]; rfl) ?_))
      refine plan_tail rfl (fun K hK => ?_)
      go_wp2
      clear a0 a1 a2 b0 b1 b2 d0 d1 d2
      have HM6 := HM5.fset f
      have g0 := FBlk.g0 (HM6.at_ 0 rfl)
      have g1 := FBlk.g1 (HM6.at_ 0 rfl)
      have g2 := FBlk.g2 (HM6.at_ 0 rfl)
      have HM7 := HM6.sel [] (by decide)
      clear HM5 HM6
      generalize World.setCell _ _ _ = W2 at *
      repeat (first | (refine plan_pure (v := ?_) (a' := ?_) rfl rfl rfl ?_ ?_ ?_; rotate_left 2; (focus (intro w'; go_simp; with_reducible rfl)); (focus (simp only [Act.put, List.setIfInBounds_toArray, List.set_cons_zero, List.set_cons_succ]; rfl))) | (refine plan_load (v := ?_) (a' := ?_) rfl rfl rfl ?_ ?_ ?_; rotate_left 2; (focus (intro w' hw'; rw [hw']; go_simp; with_reducible rfl)); (focus (simp only [Act.put, List.setIfInBounds_toArray, List.set_cons_zero, List.set_cons_succ]; rfl))) | (refine plan_skip rfl rfl (by decide +kernel) (by simp only [Act.put, List.setIfInBounds_toArray, List.set_cons_zero, List.set_cons_succ]; rfl) ?_))
      refine plan_done ?_
      obtain ⟨q1, q2⟩ := HE2.out
      obtain ⟨q2, q3, q4⟩ := q2.resolve_right (by rintro ⟨e, _⟩; cases e)
      subst q1 q3 q4
      go_wp2_with fail
      exact bodyPost_ret (v := .tuple #[.string (ofL Rq), vF Rf, .int .i64 0]) (by simp [results, Tryd.results30, go_sem, g0, g1, g2, vF]) rfl ⟨rfl, HM7⟩
set_option maxHeartbeats 2000000 in
theorem stat_calls (h : (StoreC sb mb nv s).ok w) (p : List UInt8) (hp : p.length ≤ 1100000) :
    Calls Tryd.prog 12 #[ptr sb, .string (ofL p)] w fun e w' =>
      e = .returned (.tuple #[.int .i64 (findS s p).2.1.time, .bool (findS s p).2.1.dir, .int .i64 (findS s p).2.2]) ∧ Mem none_ w [] w' := by
  have hF := find_calls h p hp
  generalize findS s p = R at *
  obtain ⟨Rq, Rf, Re⟩ := R
  simp only at hF ⊢
  unfold vF at hF
  clear h
  go_enter Tryd.func12, Tryd.ntmps12
  go_wp2_with fail
  refine hF.mono ?_
  rintro e w1 ⟨rfl, HM1⟩
  clear hF
  have HM2 := (HM1.fbox Rf)
  have HM3 := Lib.hid HM2
  go_wp2_with fail
  have HM4 := HM3.out.drew
  clear HM2 HM3
  have a0 := FBlk.g0 (HM4.at_ 0 rfl)
  have a1 := FBlk.g1 (HM4.at_ 0 rfl)
  have a2 := FBlk.g2 (HM4.at_ 0 rfl)
  refine wp_plan [] (S := fun w' => w' = World.drew _) [(.pure, 0), (.load, 1), (.pure, 2), (.load, 3), (.pure, 4), (.pure, 5), (.pure, 6), (.pure, 7)] (by kernel_rfl) rfl (by kernel_rfl) rfl (fun _ _ _ _ _ h => h) rfl ?_
  generalize World.drew _ = W at *
  repeat (first | (refine plan_pure (v := ?_) (a' := ?_) rfl rfl rfl ?_ ?_ ?_; rotate_left 2; (focus (intro w'; go_simp; with_reducible rfl)); (focus (simp only [Act.put, List.setIfInBounds_toArray, List.set_cons_zero, List.set_cons_succ]; rfl))) | (refine plan_load (v := ?_) (a' := ?_) rfl rfl rfl ?_ ?_ ?_; rotate_left 2; (focus (intro w' hw'; rw [hw']; go_simp; with_reducible rfl)); (focus (simp only [Act.put, List.setIfInBounds_toArray, List.set_cons_zero, List.set_cons_succ]; rfl))) | (refine plan_skip rfl rfl (by decide +kernel) (by simp only [Act.put, List.setIfInBounds_toArray, List.set_cons_zero, List.set_cons_succ]; rfl) ?_))
  refine plan_done ?_
  go_wp2_with fail
  exact bodyPost_ret (v := .tuple #[.int .i64 Rf.time, .bool Rf.dir, .int .i64 Re]) (by simp [results, Tryd.results12, go_sem]) rfl ⟨rfl, HM4.sel [] (by decide)⟩
end
end
section
set_option maxRecDepth 20000
open Go.RowKit

section
variable {sb mb : Nat} {nv : Value} {s : St} {w : World}
set_option maxHeartbeats 4000000 in
theorem home_calls (h : (StoreC sb mb nv s).ok w) (q : List UInt8) (hp : q.length ≤ 140737488351232) :
    Calls Tryd.prog 36 #[ptr sb, .string (ofL q)] w fun e w' => e = .returned (.int .i64 (homeS s q)) ∧ Mem none_ w [] w' := by
  have hD := fun wx => pdir_calls q wx hp
  obtain ⟨R, hR⟩ : ∃ R, homeS s q = R := ⟨_, rfl⟩
  rw [hR]
  obtain ⟨f, hf⟩ : ∃ f, (mget s.files (dirL q)).getD VF.zero = f := ⟨_, rfl⟩
  obtain ⟨ok, hok⟩ : ∃ ok, mhas s.files (dirL q) = ok := ⟨_, rfl⟩
  have hr : (if true = true then Value.tuple #[((mget s.files (dirL q)).map vF).getD (vF VF.zero), .bool (mhas s.files (dirL q))] else ((mget s.files (dirL q)).map vF).getD (vF VF.zero)) = .tuple #[.agg #[.string (ofL f.text), .int .i64 f.time, .bool f.dir], .bool ok] := by
    rw [if_pos rfl, hok, ← hf]
    cases mget s.files (dirL q) <;> rfl
  have HR : Hid (R = if ok = false then 6 else if f.dir = false then 8 else 0) := by
    unfold Hid
    rw [← hR, ← hok, ← hf]
    unfold homeS mhas
    cases mget s.files (dirL q) with
    | none => rfl
    | some f => cases hd : f.dir <;> simp [hd]
  clear hR hf hok
  have K := keyL (P := Tryd.prog) Tryd.underlying9
  have HM0 := (Mem.start (fp := none_) w).drew
  have h0 : (StoreC sb mb nv s).ok w.drew := Pure.chunk HM0.mu h
  clear h
  go_enter Tryd.func36, Tryd.ntmps36
  go_wp2_with fail
  refine lf_start (fun w' => Hid (w'.cell? ⟨sb, 3, none⟩ = some (.map (some mb)) ∧ (MapC mb kL vF s.files).ok w')) [11] 13 (by kernel_rfl) rfl (by kernel_rfl) ⟨StoreC.c3 h0, StoreC.map_ h0⟩ ?_
  generalize World.drew w = W at *
  have hS0 : Hid (W.cell? ⟨sb, 3, none⟩ = some (.map (some mb)) ∧ (MapC mb kL vF s.files).ok W) := ⟨StoreC.c3 h0, StoreC.map_ h0⟩
  have hSa : Hid ((W.alloc (.cells #[.string ⟨#[]⟩, .int .i64 0, .bool false] 50)).cell? ⟨sb, 3, none⟩ = some (.map (some mb)) ∧ (MapC mb kL vF s.files).ok (W.alloc (.cells #[.string ⟨#[]⟩, .int .i64 0, .bool false] 50))) :=
    ⟨StoreC.c3 (Pure.chunk ((Mut.refl _ _).alloc _) h0), StoreC.map_ (Pure.chunk ((Mut.refl _ _).alloc _) h0)⟩
  refine lf_pre [(.pure, 0), (.pure, 1), (.pure, 2), (.load, 3), (.pure, 4)] [4, 3, 2, 1, 0] 8 rfl (by kernel_rfl) (fun _ _ _ _ _ h => h) hS0 ?_
  repeat (first | (refine pre_pure (v := ?_) (a' := ?_) rfl rfl rfl ?_ ?_ ?_; rotate_left 2; (focus (intro w'; go_simp; with_reducible rfl)); (focus (simp only [Act.put, List.setIfInBounds_toArray, List.set_cons_zero, List.set_cons_succ]; rfl))) | (refine pre_load (v := ?_) (a' := ?_) rfl rfl rfl ?_ ?_ ?_; rotate_left 2; (focus (intro w' hw'; obtain ⟨q0, q1⟩ := hw'.out; clear hw'; go_simp; with_reducible rfl)); (focus (simp only [Act.put, List.setIfInBounds_toArray, List.set_cons_zero, List.set_cons_succ]; rfl))) | (refine pre_skip rfl rfl (by decide +kernel) (by simp only [Act.put, List.setIfInBounds_toArray, List.set_cons_zero, List.set_cons_succ]; rfl) ?_))
  refine pre_done ?_
  refine lf_name (fun A0 hA0 => ?_)
  have hlk : ∀ w', (MapC mb kL vF s.files).ok w' → (Instr.lookup 51 (.map (some mb)) (.string (ofL (dirL q))) true).run Tryd.prog w' = .ok (.tuple #[.agg #[.string (ofL f.text), .int .i64 f.time, .bool f.dir], .bool ok]) w' := fun w' hw' => by
    exact (MapC.lookup K Tryd.underlying51 (zeroF w') hw' (dirL q) true).trans (congrArg (fun v => Result.ok v w') hr)
  clear hr
  refine lf_via (α := Unit) (k' := 2) (done' := [9, 8, 7, 6, 10, 5, 4, 3, 2, 1, 0]) (fun _ W' => W' = W.alloc (.cells #[.string ⟨#[]⟩, .int .i64 0, .bool false] 50))
    (fun _ => (((((A0.put (some 13) (.string (ofL (dirL q)))).put (some 14) (.tuple #[.agg #[.string (ofL f.text), .int .i64 f.time, .bool f.dir], .bool ok])).put (some 7) (.tuple #[.agg #[.string (ofL f.text), .int .i64 f.time, .bool f.dir], .bool ok])).put (some 15) (.agg #[.string (ofL f.text), .int .i64 f.time, .bool f.dir])).put (some 16) (.bool ok)).put (some 5) (.pointer (some ⟨W.heap.size, 0, none⟩))) (fun H => ?_) (fun x W' hW' => ?_)
  · have hA2 := hA0.out
    subst hA2
    have H2 := H () _ rfl
    simp only [Act.put, List.setIfInBounds_toArray, List.set_cons_zero, List.set_cons_succ] at H2
    have H' := Lib.hid H2
    clear H H2
    refine lf_two 5 10 (by kernel_rfl) rfl rfl (fun K' hK => ?_) (fun K' hK => ?_)
    · have hDw := hD W
      go_wp2_with fail
      refine hDw.mono ?_
      rintro e w2 ⟨rfl, rfl⟩
      go_wp2_with fail
      refine hK _ _ (fun _ h => h) ?_
      clear hK hDw
      refine lf_pre [(.load, 6), (.pure, 7), (.pure, 8), (.pure, 9)] [9, 8, 7, 6, 5, 4, 3, 2, 1, 0] 3 rfl (by kernel_rfl) (fun _ _ _ _ _ h => h) hS0 ?_
      refine pre_load (v := .tuple #[.agg #[.string (ofL f.text), .int .i64 f.time, .bool f.dir], .bool ok]) (a' := ?_) rfl rfl rfl ?_ ?_ ?_; rotate_left 1
      · intro w' hw'
        have hl := hlk w' hw'.out.2
        go_simp
      · simp only [Act.put, List.setIfInBounds_toArray, List.set_cons_zero, List.set_cons_succ]; rfl
      repeat (first | (refine pre_pure (v := ?_) (a' := ?_) rfl rfl rfl ?_ ?_ ?_; rotate_left 2; (focus (intro w'; go_simp; with_reducible rfl)); (focus (simp only [Act.put, List.setIfInBounds_toArray, List.set_cons_zero, List.set_cons_succ]; rfl))) | (refine pre_load (v := ?_) (a' := ?_) rfl rfl rfl ?_ ?_ ?_; rotate_left 2; (focus (intro w' hw'; obtain ⟨q0, q1⟩ := hw'.out; clear hw'; go_simp; with_reducible rfl)); (focus (simp only [Act.put, List.setIfInBounds_toArray, List.set_cons_zero, List.set_cons_succ]; rfl))) | (refine pre_skip rfl rfl (by decide +kernel) (by simp only [Act.put, List.setIfInBounds_toArray, List.set_cons_zero, List.set_cons_succ]; rfl) ?_))
      refine pre_done ?_
      refine lf_one 10 (by kernel_rfl) rfl (fun K' hK => ?_)
      go_wp2_with fail
      refine hK _ _ (fun _ _ => hSa) ?_
      refine lf_same (done' := [9, 8, 7, 6, 10, 5, 4, 3, 2, 1, 0]) (by kernel_rfl) ?_
      exact H'.out
    · go_wp2_with fail
      refine hK _ _ (fun _ _ => hSa) ?_
      clear hK
      refine lf_one 5 (by kernel_rfl) rfl (fun K' hK => ?_)
      have hDw := hD (W.alloc (.cells #[.string ⟨#[]⟩, .int .i64 0, .bool false] 50))
      have h1 := Lib.hid hSa
      generalize W.alloc _ = W2 at *
      go_wp2_with fail
      refine hDw.mono ?_
      rintro e w2 ⟨rfl, rfl⟩
      go_wp2_with fail
      refine hK _ _ (fun _ h => h) ?_
      clear hK hDw
      refine lf_pre [(.load, 6), (.pure, 7), (.pure, 8), (.pure, 9)] [9, 8, 7, 6, 5, 10, 4, 3, 2, 1, 0] 2 rfl (by kernel_rfl) (fun _ _ _ _ _ h => h) hSa ?_
      refine pre_load (v := .tuple #[.agg #[.string (ofL f.text), .int .i64 f.time, .bool f.dir], .bool ok]) (a' := ?_) rfl rfl rfl ?_ ?_ ?_; rotate_left 1
      · intro w' hw'
        have hl := hlk w' hw'.out.2
        go_simp
      · simp only [Act.put, List.setIfInBounds_toArray, List.set_cons_zero, List.set_cons_succ]; rfl
      repeat (first | (refine pre_pure (v := ?_) (a' := ?_) rfl rfl rfl ?_ ?_ ?_; rotate_left 2; (focus (intro w'; go_simp; with_reducible rfl)); (focus (simp only [Act.put, List.setIfInBounds_toArray, List.set_cons_zero, List.set_cons_succ]; rfl))) | (refine pre_load (v := ?_) (a' := ?_) rfl rfl rfl ?_ ?_ ?_; rotate_left 2; (focus (intro w' hw'; obtain ⟨q0, q1⟩ := hw'.out; clear hw'; go_simp; with_reducible rfl)); (focus (simp only [Act.put, List.setIfInBounds_toArray, List.set_cons_zero, List.set_cons_succ]; rfl))) | (refine pre_skip rfl rfl (by decide +kernel) (by simp only [Act.put, List.setIfInBounds_toArray, List.set_cons_zero, List.set_cons_succ]; rfl) ?_))
      refine pre_done ?_
      refine lf_same (done' := [9, 8, 7, 6, 10, 5, 4, 3, 2, 1, 0]) (by kernel_rfl) ?_
      exact H'.out
  · have hA2 := hA0.out
    subst hA2
    subst hW'
    simp only [Act.put, List.setIfInBounds_toArray, List.set_cons_zero, List.set_cons_succ]
    have HM1 := HM0.fbox f
    have HM1' := Lib.hid HM1
    clear HM1
    refine lf_one 11 (by kernel_rfl) rfl (fun K' hK => ?_)
    go_wp2_with fail
    refine hK _ _ (fun h => by cases h) ?_
    clear hK
    have HM2 := HM1'.out
    clear HM1' hSa hS0 hlk hD HM0 h0
    have a2 := FBlk.g2 (HM2.at_ 0 rfl)
    generalize W.heap.size = nb at *
    generalize W.alloc _ = W2 at *
    have HM3 := HM2.sel [] (by decide)
    clear HM2
    refine lf_one 12 (by kernel_rfl) rfl (fun K' hK => ?_)
    go_wp2_with fail
    refine hK _ _ (fun _ h => h) ?_
    clear hK
    refine lf_end (by kernel_rfl) ?_
    cases ok with
    | false =>
      have HE : Hid (R = 6) := by unfold Hid; rw [HR.out]; rfl
      clear HR
      go_wp2_with fail
      go_ret
      exact ⟨by rw [HE.out]; rfl, HM3⟩
    | true =>
      obtain ⟨d, hd⟩ : ∃ d, f.dir = d := ⟨_, rfl⟩
      rw [hd] at a2 HR
      cases d with
      | false =>
        have HE : Hid (R = 8) := by unfold Hid; rw [HR.out]; rfl
        clear HR
        go_wp2_with fail
        go_ret
        exact ⟨by rw [HE.out]; rfl, HM3⟩
      | true =>
        have HE : Hid (R = 0) := by unfold Hid; rw [HR.out]; rfl
        clear HR
        go_wp2_with fail
        go_ret
        exact ⟨by rw [HE.out]; rfl, HM3⟩
end
end
end Go.Proofs.YtjhcabjlhnhkbaaDoor
