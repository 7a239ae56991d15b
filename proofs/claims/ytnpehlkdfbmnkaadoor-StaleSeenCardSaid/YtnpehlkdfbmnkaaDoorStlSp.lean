/-
  Layer 18 (stale): a map of fates in memory.
  Layer 18 (stale): the code's Seen.
-/
import Derived.Test.YtnpehlkdfbmnkaaDoorStlMe
set_option linter.unusedVariables false
set_option linter.unusedSimpArgs false
namespace Go.Proofs.YtnpehlkdfbmnkaaDoor
section
set_option maxRecDepth 20000
open Go.RowKit

abbrev PF := Nat × Fate
def pV (x : PF) : Value := .pointer (some ⟨x.1, 0, none⟩)
abbrev FB (x : PF) : Chunk := Blk x.1 125 #[.bool x.2.read, .bool x.2.wrote]
abbrev Ent := List UInt8 × PF
def Fts (es : List Ent) : Chunk := Many (es.map fun e => FB e.2)
def plE (es : List Ent) : List (List UInt8 × Fate) := es.map fun e => (e.1, e.2.2)
theorem mget_split {es : List Ent} {k : List UInt8} {x : PF} (h : mget es k = some x) : ∃ e1 e2, es = e1 ++ (k, x) :: e2 ∧ ∀ e, e ∈ e1 → e.1 ≠ k := by
  induction es with
  | nil => cases h
  | cons e es ih =>
    rw [mget_cons] at h
    split at h
    · rename_i hk
      cases h
      exact ⟨[], es, by rw [hk]; rfl, fun e he => by cases he⟩
    · rename_i hk
      obtain ⟨e1, e2, h1, h2⟩ := ih h
      refine ⟨e :: e1, e2, by rw [h1]; rfl, fun y hy => ?_⟩
      rcases List.mem_cons.1 hy with rfl | hy
      · exact fun e => hk e.symm
      · exact h2 y hy
theorem mput_split {ν : Type} : ∀ {e1 : List (List UInt8 × ν)} {k : List UInt8} {x : ν} {e2 : List (List UInt8 × ν)} (y : ν), (∀ e, e ∈ e1 → e.1 ≠ k) → mput (e1 ++ (k, x) :: e2) k y = e1 ++ (k, y) :: e2
  | [], k, x, e2, y, _ => by rw [List.nil_append, mput_cons, if_pos rfl]; rfl
  | e :: e1, k, x, e2, y, h => by
    rw [List.cons_append, mput_cons, if_neg (fun he => h e (by simp) he.symm), mput_split y (fun z hz => h z (by simp [hz]))]; rfl
theorem mget_plE (es : List Ent) (k : List UInt8) : mget (plE es) k = (mget es k).map (·.2) := by
  induction es with
  | nil => rfl
  | cons e es ih =>
    unfold plE at ih ⊢
    rw [List.map_cons, mget_cons, mget_cons, ih]
    split <;> rfl
theorem mput_plE (es : List Ent) (k : List UInt8) (x : PF) : plE (mput es k x) = mput (plE es) k x.2 := by
  induction es with
  | nil => rfl
  | cons e es ih =>
    unfold plE at ih ⊢
    rw [mput_cons, List.map_cons, mput_cons]
    split
    · rfl
    · rw [List.map_cons, ih]
theorem mput_keysS {ν : Type} (es : List (List UInt8 × ν)) {k : List UInt8} (x : ν) (h : (mget es k).isSome = true) : (mput es k x).map (·.1) = es.map (·.1) := by
  induction es with
  | nil => cases h
  | cons e es ih =>
    rw [mget_cons] at h
    rw [mput_cons]
    split at h
    · rename_i hk; rw [if_pos hk, List.map_cons, List.map_cons, hk]
    · rename_i hk; rw [if_neg hk, List.map_cons, List.map_cons, ih h]
theorem mput_self {ν : Type} (es : List (List UInt8 × ν)) {k : List UInt8} {x : ν} (h : mget es k = some x) : mput es k x = es := by
  induction es with
  | nil => cases h
  | cons e es ih =>
    rw [mget_cons] at h
    rw [mput_cons]
    split at h
    · rename_i hk; cases h; rw [if_pos hk, hk]
    · rename_i hk; rw [if_neg hk, ih h]
theorem mget_notin {ν : Type} {es : List (List UInt8 × ν)} {k : List UInt8} (h : mget es k = none) : k ∉ es.map (·.1) := by
  induction es with
  | nil => simp
  | cons e es ih =>
    rw [mget_cons] at h
    split at h
    · cases h
    · rename_i hk
      rw [List.map_cons, List.mem_cons, not_or]
      exact ⟨hk, ih h⟩
theorem mget_at {ν : Type} {es : List (List UInt8 × ν)} (hn : (es.map (·.1)).Nodup) {i : Nat} (h : i < es.length) : mget es es[i].1 = some es[i].2 := by
  induction es generalizing i with
  | nil => simp at h
  | cons e es ih =>
    rw [List.map_cons, List.nodup_cons] at hn
    cases i with
    | zero => rw [mget_cons]; simp
    | succ i =>
      have hi : i < es.length := by simpa using h
      rw [mget_cons, List.getElem_cons_succ, if_neg, ih hn.2 hi]
      intro e'
      exact hn.1 (List.mem_map.2 ⟨es[i], List.getElem_mem hi, e'⟩)
section
variable {fp : Nat → Prop} {w0 w : World} {F : List Chunk} {es : List Ent} {k : List UInt8} {b : Nat} {f : Fate} {mb : Nat}
theorem Fts.get (h : (Fts es).ok w) (hk : mget es k = some (b, f)) : (FB (b, f)).ok w := by
  obtain ⟨e1, e2, rfl, _⟩ := mget_split hk
  have h' : Star _ w := h
  exact h'.1 _ (by simp)
theorem Mem.ftsNew (h : Mem fp w0 (FB (b, f) :: Fts es :: F) w) (k : List UInt8) : Mem fp w0 (Fts (es ++ [(k, (b, f))]) :: F) w := by
  have h1 : Mem fp w0 (Fts es :: FB (b, f) :: F) w := h.perm (List.Perm.swap _ _ _)
  have h2 := h1.open_
  have h3 : Mem fp w0 ((es ++ [(k, (b, f))]).map (fun e => FB e.2) ++ F) w := by
    rw [List.map_append, List.append_assoc]; exact h2
  exact h3.shut_
theorem Mem.ftsSet (h : Mem fp w0 (Fts es :: F) w) (hk : mget es k = some (b, f)) (v : Bool) : Mem fp w0 (Fts (mput es k (b, ⟨f.read, v⟩)) :: F) (w.setCell ⟨b, 1, none⟩ (.bool v)) := by
  obtain ⟨e1, e2, rfl, hn⟩ := mget_split hk
  rw [mput_split _ hn]
  have h2 := h.open_
  rw [List.map_append, List.map_cons, List.append_assoc, List.cons_append] at h2
  have h3 := (h2.front _).blkSet 1 (.bool v)
  simp only [List.setIfInBounds_toArray, List.set_cons_zero, List.set_cons_succ] at h3
  have h4 : Mem fp w0 ((e1 ++ (k, (b, ⟨f.read, v⟩)) :: e2).map (fun e => FB e.2) ++ F) (w.setCell ⟨b, 1, none⟩ (.bool v)) := by
    rw [List.map_append, List.map_cons, List.append_assoc, List.cons_append]
    exact Mem.back _ h3
  exact h4.shut_
theorem Mem.mapSame (h : Mem fp w0 (MapC mb kL pV es :: F) w) (hk : mget es k = some (b, f)) (g : Fate) : Mem fp w0 (MapC mb kL pV (mput es k (b, g)) :: F) w := by
  refine h.turn (Mut.refl _ _) ?_ (fun x hx => .inl hx)
  obtain ⟨es', clk, h1, h2, h3⟩ := h.head
  refine ⟨es', clk, h1, ?_, h3⟩
  rw [h2]
  obtain ⟨e1, e2, rfl, hn⟩ := mget_split hk
  rw [mput_split _ hn]
  simp [pV]
end
theorem seeS_new1 {m : List (List UInt8 × Fate)} {t : Tou} (h : mget m t.2 = none) : seeS m t = m ++ [(t.2, ⟨decide (t.1 = 1), if t.1 = 1 then false else decide (t.1 = 2)⟩)] := by
  unfold seeS
  rw [h, Option.getD_none, mput_new h]
  rfl
theorem seeS_old {m : List (List UInt8 × Fate)} {t : Tou} {f : Fate} (h : mget m t.2 = some f) : seeS m t = if t.1 = 1 then m else mput m t.2 ⟨f.read, decide (t.1 = 2)⟩ := by
  unfold seeS
  rw [h, Option.getD_some]
  unfold seeT
  split
  · exact mput_self m h
  · rfl
end
section
set_option maxRecDepth 20000
open Go.RowKit

theorem zeroPt (w : World) : (zeroValue 123).run Tryd.prog w = .ok (.pointer none) w := Tryd.zeroValue123 w
/-- Where the first loop stands. -/
structure SeeI (ts : List Tou) (k : Nat) (es : List Ent) : Prop where
  pl : plE es = (ts.take k).foldl seeS []
  nd : (es.map (·.1)).Nodup
  len : es.length ≤ k
theorem SeeI.new {ts : List Tou} {k : Nat} {es : List Ent} (h : SeeI ts k es) (hk : k < ts.length) (hg : mget es ts[k].2 = none) (b : Nat) :
    SeeI ts (k + 1) (es ++ [(ts[k].2, (b, ⟨decide (ts[k].1 = 1), if ts[k].1 = 1 then false else decide (ts[k].1 = 2)⟩))]) := by
  refine ⟨?_, ?_, by rw [List.length_append, List.length_singleton]; have := h.len; omega⟩
  · rw [List.take_succ_eq_append_getElem hk, List.foldl_append, ← h.pl]
    show _ = seeS (plE es) ts[k]
    rw [seeS_new1 (by rw [mget_plE, hg]; rfl)]
    simp [plE]
  · rw [List.map_append, List.nodup_append]
    refine ⟨h.nd, by simp, fun a ha c hc => ?_⟩
    simp at hc
    subst hc
    intro e
    subst e
    exact mget_notin hg ha
theorem SeeI.read {ts : List Tou} {k : Nat} {es : List Ent} (h : SeeI ts k es) (hk : k < ts.length) {b : Nat} {f : Fate} (hg : mget es ts[k].2 = some (b, f)) (h1 : ts[k].1 = 1) : SeeI ts (k + 1) es := by
  refine ⟨?_, h.nd, by have := h.len; omega⟩
  rw [List.take_succ_eq_append_getElem hk, List.foldl_append, ← h.pl]
  show _ = seeS (plE es) ts[k]
  rw [seeS_old (f := f) (by rw [mget_plE, hg]; rfl), if_pos h1]
theorem SeeI.turn {ts : List Tou} {k : Nat} {es : List Ent} (h : SeeI ts k es) (hk : k < ts.length) {b : Nat} {f : Fate} (hg : mget es ts[k].2 = some (b, f)) (h1 : ¬ ts[k].1 = 1) : SeeI ts (k + 1) (mput es ts[k].2 (b, ⟨f.read, decide (ts[k].1 = 2)⟩)) := by
  have hs : (mget es ts[k].2).isSome = true := by rw [hg]; rfl
  refine ⟨?_, by rw [mput_keysS _ _ hs]; exact h.nd, ?_⟩
  · rw [List.take_succ_eq_append_getElem hk, List.foldl_append, ← h.pl]
    show _ = seeS (plE es) ts[k]
    rw [seeS_old (f := f) (by rw [mget_plE, hg]; rfl), if_neg h1, mput_plE]
  · have e := congrArg List.length (mput_keysS es (b, (⟨f.read, decide (ts[k].1 = 2)⟩ : Fate)) hs)
    rw [List.length_map, List.length_map] at e
    have := h.len
    omega
theorem keys_app (es : List Ent) (x : Ent) : (es ++ [x]).map (·.1) = es.map (·.1) ++ [x.1] := by simp
set_option maxHeartbeats 16000000 in
theorem sseen_calls (V : Value) (ts : List Tou) (w : World) (hV : Tous w V ts) (hl : ts.length ≤ 1000) :
    Calls Tryd.prog 33 #[V] w fun e w' => ∃ v, e = .returned v ∧ Mem none_ w [NRow v (seenL ts)] w' := by
  obtain ⟨A, c, rfl, g1, g2, g3, g4⟩ := hV
  unfold maxLen at g2
  have K := keyL (P := Tryd.prog) Tryd.underlying9
  have hmm := @run_makeMap Tryd.prog
  have HM0 := Mem.nilT (Mem.shut_ (cs := []) (MapC.made (Mem.start (fp := none_) w) kL pV))
  have HM1 : Mem none_ w [MapC w.heap.size kL pV [], Fts [], TRow (.slice none 0 0) []] _ := HM0.sel [2, 1, 0] (by decide)
  have HM1' := Lib.hid HM1
  clear HM0 HM1 g3
  go_enter Tryd.func33, Tryd.ntmps33
  go_wp2_with fail
  have HM1 := HM1'.out
  clear HM1'
  generalize World.alloc _ _ = W0 at *
  generalize w.heap.size = mb at *
  go_loopw [4, 6, 7, 14] (fun v4 v6 v7 v14 wr => ∃ (k : Nat) (es : List Ent) (ov : Value), k ≤ ts.length ∧ v14 = .int .i64 k ∧ v4 = ov ∧ Hid (SeeI ts k es) ∧ Mem none_ w [MapC mb kL pV es, Fts es, TRow ov (es.map (·.1))] wr) (fun _ _ _ v _ => ts.length - (intOf v).toNat)
  case atStart => exact ⟨0, [], _, Nat.zero_le _, rfl, rfl, ⟨rfl, by simp, Nat.le_refl _⟩, HM1⟩
  case round =>
    clear HM1
    obtain ⟨k, es, ov, hk, rfl, rfl, HI, HM⟩ := hrel
    obtain ⟨A5, c5, rfl, y1, y2⟩ := Row.any_ (HM.at_ 2 rfl)
    have hel : (es.map (·.1)).length = es.length := List.length_map ..
    rw [hel] at HM y1 ⊢
    clear hel
    by_cases hlt : k < ts.length
    · have hlt' : decide ((k : Int) < (ts.length : Int)) = true := decide_eq_true (by omega)
      have hltN : decide (k < ts.length) = true := decide_eq_true hlt
      obtain ⟨b, o, rfl, hcells⟩ := g4.resolve_left (by omega)
      have pg := tch_get hlt
      have hx0 : wr.cell? ⟨b, o + k * 2, none⟩ = some (.int .i64 ts[k].1) := Pure.cell HM.mu (hcells _ _ pg.1)
      have hx1 : wr.cell? ⟨b, o + k * 2 + 1, none⟩ = some (.string (ofL ts[k].2)) := Pure.cell HM.mu (hcells _ _ pg.2)
      have HNew : Hid (mget es ts[k].2 = none → ∀ b, SeeI ts (k + 1) (es ++ [(ts[k].2, (b, ⟨decide (ts[k].1 = 1), if ts[k].1 = 1 then false else decide (ts[k].1 = 2)⟩))])) := fun h b => HI.out.new hlt h b
      have HRead : Hid (∀ b f, mget es ts[k].2 = some (b, f) → ts[k].1 = 1 → SeeI ts (k + 1) es) := fun b f h h1 => HI.out.read hlt h h1
      have HTurn : Hid (∀ b f, mget es ts[k].2 = some (b, f) → ¬ ts[k].1 = 1 → SeeI ts (k + 1) (mput es ts[k].2 (b, ⟨f.read, decide (ts[k].1 = 2)⟩))) := fun b f h h1 => HI.out.turn hlt h h1
      have hlen := HI.out.len
      clear hcells g4 pg HI
      generalize ts[k] = x at *
      obtain ⟨xk, xp⟩ := x
      simp only at hx0 hx1 HNew HRead HTurn
      have HMx := HM.box #[.int .i64 0, .string ⟨#[]⟩] 106
      have HMy0 := (HM.box #[.int .i64 xk, .string (ofL xp)] 106)
      have HMy : Mem none_ w [MapC mb kL pV es, Fts es, TRow (.slice A5 es.length c5) (es.map (·.1)), Blk wr.heap.size 106 #[.int .i64 xk, .string (ofL xp)]] _ := HMy0.sel [1, 2, 3, 0] (by decide)
      have z0 := Blk.cell_ (HMx.at_ 0 rfl) 0
      have z1 := Blk.cell_ (HMx.at_ 0 rfl) 1
      simp only [List.getElem?_toArray, List.getElem?_cons_succ, List.getElem?_cons_zero] at z0 z1
      have fz0 := Blk.frozen (HMx.at_ 0 rfl) 0
      have fz1 := Blk.frozen (HMx.at_ 0 rfl) 1
      have y0 := Blk.cell_ (HMy.at_ 3 rfl) 0
      have y1 := Blk.cell_ (HMy.at_ 3 rfl) 1
      simp only [List.getElem?_toArray, List.getElem?_cons_succ, List.getElem?_cons_zero] at y0 y1
      have hmap := HMy.at_ 0 rfl
      clear HMx HMy0 HM
      cases hg : mget es xp with
      | none =>
        have hr : (if false = true then Value.tuple #[((mget es xp).map pV).getD (.pointer none), .bool (mhas es xp)] else ((mget es xp).map pV).getD (.pointer none)) = .pointer none := by rw [hg]; rfl
        have hNew := HNew.out hg
        clear HNew HRead HTurn
        by_cases h1 : xk = 1
        · subst h1
          have HMf := (HMy.box #[.bool true, .bool false] 125).sel [1, 0, 2, 3, 4] (by decide)
          simp only [List.cons_append, List.nil_append, List.filterMap_cons, List.filterMap_nil, List.getElem?_cons_succ, List.getElem?_cons_zero] at HMf
          have hfb : (wr.alloc (.cells #[.int .i64 1, .string (ofL xp)] 106)).heap.size = wr.heap.size + 1 := by simp
          rw [hfb] at HMf
          clear hfb
          go_wp2_with (first | (at_lookup; refine wpList_get K Tryd.underlying122 zeroPt rfl _ _ false rfl hmap rfl xp rfl (.pointer none) hr ?_) | (refine wpList_put K Tryd.underlying122 rfl _ _ _ (.inl rfl) HMf rfl xp rfl (wr.heap.size + 1, (⟨true, false⟩ : Fate)) rfl ?_; intro w2 HMg HUg; have HMh := HMg.sel [3, 0, 1, 2, 4] (by decide); simp only [List.cons_append, List.nil_append, List.filterMap_cons, List.filterMap_nil, List.getElem?_cons_succ, List.getElem?_cons_zero] at HMh; have yy1 := Blk.cell_ (HMh.at_ 4 rfl) 1; simp only [List.getElem?_toArray, List.getElem?_cons_succ, List.getElem?_cons_zero] at yy1; clear y0 y1 z0 z1 fz0 fz1 hmap) | (at_builtin; refine wpList_appT strE rfl _ _ rfl HMh rfl xp _ rfl ?hnb ?hb ?_; (case hnb => simp); (case hb => rw [List.length_map]; omega); intro v' w3 HMi HUi; have HR := Row.any_ (HMi.at_ 0 rfl); rw [List.length_append, List.length_map, List.length_singleton] at HR; obtain ⟨A6, c6, rfl, x1, x2⟩ := HR; have yy0 := Blk.cell_ (HMi.at_ 4 rfl) 0; simp only [List.getElem?_toArray, List.getElem?_cons_succ, List.getElem?_cons_zero] at yy0; have v1 := Blk.cell_ (HMi.at_ 2 rfl) 1; have fv1 := Blk.frozen (HMi.at_ 2 rfl) 1; simp only [List.getElem?_toArray, List.getElem?_cons_succ, List.getElem?_cons_zero] at v1; generalize hfbe : wr.heap.size + 1 = fb at *; clear yy1 HMg HMh HUg HUi HMf hfbe))
          have HM9 := ((HMi.sel [2, 3, 1, 0] (by decide)))
          simp only [List.cons_append, List.nil_append, List.filterMap_cons, List.filterMap_nil, List.getElem?_cons_succ, List.getElem?_cons_zero] at HM9
          have HMj := Mem.ftsNew (f := ⟨true, false⟩) HM9 xp
          have HMk : Mem none_ w [MapC mb kL pV (es ++ [(xp, (fb, ⟨true, false⟩))]), Fts (es ++ [(xp, (fb, ⟨true, false⟩))]), TRow (.slice A6 (es.length + 1) c6) ((es ++ [(xp, (fb, (⟨true, false⟩ : Fate)))]).map (·.1))] w3 := by
            rw [keys_app]; rw [mput_new hg] at HMj; exact HMj.sel [1, 0, 2] (by decide)
          have HS := Lib.hid (hNew fb)
          simp only [decide_true, if_true] at HS
          clear HMj HM9 HMi hg hNew
          go_wp2_with fail
          go_roundw
          case rel => exact ⟨k + 1, es ++ [(xp, (fb, ⟨true, false⟩))], _, by omega, by go_num, rfl, HS, HMk⟩
          case measure => simp [intOf]; omega
        · have q1 : (xk == 1) = false := by rw [beq_eq_false_iff_ne]; exact h1
          have q1n : (xk != 1) = true := by rw [bne_iff_ne]; exact h1
          obtain ⟨G, hG⟩ : ∃ G, decide (xk = 2) = G := ⟨_, rfl⟩
          have q2 : (xk == 2) = G := by rw [← hG]; by_cases h : xk = 2 <;> simp [h]
          have HMf := (HMy.box #[.bool false, .bool false] 125).sel [1, 0, 2, 3, 4] (by decide)
          simp only [List.cons_append, List.nil_append, List.filterMap_cons, List.filterMap_nil, List.getElem?_cons_succ, List.getElem?_cons_zero] at HMf
          have hfb : (wr.alloc (.cells #[.int .i64 xk, .string (ofL xp)] 106)).heap.size = wr.heap.size + 1 := by simp
          rw [hfb] at HMf
          clear hfb
          go_wp2_with (first | (at_lookup; refine wpList_get K Tryd.underlying122 zeroPt rfl _ _ false rfl hmap rfl xp rfl (.pointer none) hr ?_) | (refine wpList_put K Tryd.underlying122 rfl _ _ _ (.inl rfl) HMf rfl xp rfl (wr.heap.size + 1, (⟨false, false⟩ : Fate)) rfl ?_; intro w2 HMg HUg; have HMh := HMg.sel [3, 0, 1, 2, 4] (by decide); simp only [List.cons_append, List.nil_append, List.filterMap_cons, List.filterMap_nil, List.getElem?_cons_succ, List.getElem?_cons_zero] at HMh; have yy1 := Blk.cell_ (HMh.at_ 4 rfl) 1; simp only [List.getElem?_toArray, List.getElem?_cons_succ, List.getElem?_cons_zero] at yy1; clear y0 y1 z0 z1 fz0 fz1 hmap) | (at_builtin; refine wpList_appT strE rfl _ _ rfl HMh rfl xp _ rfl ?hnb ?hb ?_; (case hnb => simp); (case hb => rw [List.length_map]; omega); intro v' w3 HMi HUi; have HR := Row.any_ (HMi.at_ 0 rfl); rw [List.length_append, List.length_map, List.length_singleton] at HR; obtain ⟨A6, c6, rfl, x1, x2⟩ := HR; have yy0 := Blk.cell_ (HMi.at_ 4 rfl) 0; simp only [List.getElem?_toArray, List.getElem?_cons_succ, List.getElem?_cons_zero] at yy0; have v1 := Blk.cell_ (HMi.at_ 2 rfl) 1; have fv1 := Blk.frozen (HMi.at_ 2 rfl) 1; simp only [List.getElem?_toArray, List.getElem?_cons_succ, List.getElem?_cons_zero] at v1; generalize hfbe : wr.heap.size + 1 = fb at *; clear yy1 HMg HMh HUg HUi HMf hfbe))
          have HM9 := ((HMi.sel [2, 3, 1, 0] (by decide)).blkSet 1 (.bool G))
          simp only [List.setIfInBounds_toArray, List.set_cons_zero, List.set_cons_succ, List.cons_append, List.nil_append, List.filterMap_cons, List.filterMap_nil, List.getElem?_cons_succ, List.getElem?_cons_zero] at HM9
          have HMj := Mem.ftsNew (f := ⟨false, G⟩) HM9 xp
          have HMk : Mem none_ w [MapC mb kL pV (es ++ [(xp, (fb, ⟨false, G⟩))]), Fts (es ++ [(xp, (fb, ⟨false, G⟩))]), TRow (.slice A6 (es.length + 1) c6) ((es ++ [(xp, (fb, (⟨false, G⟩ : Fate)))]).map (·.1))] (w3.setCell ⟨fb, 1, none⟩ (.bool G)) := by
            have hg2 : mget (es ++ [(xp, (fb, (⟨false, false⟩ : Fate)))]) xp = some (fb, ⟨false, false⟩) := by
              have := mget_put es xp xp (fb, (⟨false, false⟩ : Fate))
              rw [mput_new hg, if_pos rfl] at this; exact this
            rw [keys_app]
            rw [mput_new hg] at HMj
            have hm := (HMj.sel [1, 0, 2] (by decide)).mapSame hg2 ⟨false, G⟩
            have e : mput (es ++ [(xp, (fb, (⟨false, false⟩ : Fate)))]) xp (fb, ⟨false, G⟩) = es ++ [(xp, (fb, ⟨false, G⟩))] :=
              mput_split _ (fun z hz e => mget_notin hg (List.mem_map.2 ⟨z, hz, e⟩))
            rw [e] at hm
            exact hm
          have HS := Lib.hid (hNew fb)
          simp only [decide_eq_false h1, if_neg h1, hG] at HS
          have HMk' := Lib.hid HMk
          clear HMj HM9 HMi HMk hg hNew h1 hG
          go_wp2_with fail
          go_roundw
          case rel => exact ⟨k + 1, es ++ [(xp, (fb, ⟨false, G⟩))], _, by omega, by go_num, rfl, HS, HMk'.out⟩
          case measure => simp [intOf]; omega
      | some bf =>
        obtain ⟨fb, ff⟩ := bf
        have hr : (if false = true then Value.tuple #[((mget es xp).map pV).getD (.pointer none), .bool (mhas es xp)] else ((mget es xp).map pV).getD (.pointer none)) = .pointer (some ⟨fb, 0, none⟩) := by rw [hg]; rfl
        have hF := Fts.get (HMy.at_ 1 rfl) hg
        have v1 := Blk.cell_ hF 1
        have fv1 := Blk.frozen hF 1
        simp only [List.getElem?_toArray, List.getElem?_cons_succ, List.getElem?_cons_zero] at v1
        by_cases h1 : xk = 1
        · have q1n : (xk != 1) = false := by rw [bne_eq_false_iff_eq]; exact h1
          have HS := Lib.hid (HRead.out fb ff hg h1)
          have HMk := Lib.hid (HMy.sel [0, 1, 2] (by decide))
          clear h1 HNew HRead HTurn hF hg
          go_wp2_with (at_lookup; refine wpList_get K Tryd.underlying122 zeroPt rfl _ _ false rfl hmap rfl xp rfl (.pointer (some ⟨fb, 0, none⟩)) hr ?_)
          go_roundw
          case rel => exact ⟨k + 1, es, _, by omega, by go_num, rfl, HS, HMk.out⟩
          case measure => simp [intOf]; omega
        · have q1n : (xk != 1) = true := by rw [bne_iff_ne]; exact h1
          obtain ⟨G, hG⟩ : ∃ G, decide (xk = 2) = G := ⟨_, rfl⟩
          have q2 : (xk == 2) = G := by rw [← hG]; by_cases h : xk = 2 <;> simp [h]
          have HS := Lib.hid (HTurn.out fb ff hg h1)
          simp only [hG] at HS
          have HMj := (HMy.sel [1, 0, 2] (by decide)).ftsSet hg G
          have HMk0 := (HMj.sel [1, 0, 2] (by decide)).mapSame hg ⟨ff.read, G⟩
          have hke := mput_keysS es (fb, (⟨ff.read, G⟩ : Fate)) (by rw [hg]; rfl)
          have HMk1 := HMk0
          rw [← hke] at HMk1
          have HMk := Lib.hid HMk1
          clear h1 HNew HRead HTurn hF hg HMj HMk0 HMk1 hke hG
          go_wp2_with (at_lookup; refine wpList_get K Tryd.underlying122 zeroPt rfl _ _ false rfl hmap rfl xp rfl (.pointer (some ⟨fb, 0, none⟩)) hr ?_)
          go_roundw
          case rel => exact ⟨k + 1, mput es xp (fb, ⟨ff.read, G⟩), _, by omega, by go_num, rfl, HS, HMk.out⟩
          case measure => simp [intOf]; omega
    · have hlt' : decide ((k : Int) < (ts.length : Int)) = false := decide_eq_false (by omega)
      have hltN : decide (k < ts.length) = false := decide_eq_false hlt
      have e : k = ts.length := by omega
      subst e
      have hpl := HI.out.pl
      rw [List.take_length] at hpl
      have Hout : Hid (seenL ts = (plE es).flatMap outT) := by unfold Hid seenL; rw [hpl]
      have Hnd := Lib.hid HI.out.nd
      have hlen := HI.out.len
      have HMa : Mem none_ w [NRow (.slice none 0 0) [], MapC mb kL pV es, Fts es, TRow (.slice A5 es.length c5) (es.map (·.1))] wr := HM.nilN
      clear hpl HI HM
      go_wp2_with fail
      go_loopw [8, 10, 50] (fun v8 v10 v50 wr => ∃ k : Nat, k ≤ es.length ∧ v50 = .int .i64 k ∧ Mem none_ w [NRow v8 ((plE (es.take k)).flatMap outT), MapC mb kL pV es, Fts es, TRow (.slice A5 es.length c5) (es.map (·.1))] wr) (fun _ _ v _ => es.length - (intOf v).toNat)
      case atStart => exact ⟨0, Nat.zero_le _, rfl, HMa⟩
      case round =>
        clear HMa
        obtain ⟨k, hk, rfl, HM⟩ := hrel
        by_cases hlt : k < es.length
        · have hlt' : decide ((k : Int) < (es.length : Int)) = true := decide_eq_true (by omega)
          have hltN : decide (k < es.length) = true := decide_eq_true hlt
          have hSl := Row.sl (HM.at_ 3 rfl)
          obtain ⟨A', c', e', _, _, _, h4⟩ := hSl
          rw [List.length_map] at e'
          cases e'
          obtain ⟨b, o, rfl, hcells⟩ := h4.resolve_left (by rw [List.length_map]; omega)
          have hx0 : wr.cell? ⟨b, o + k, none⟩ = some (.string (ofL es[k].1)) := hcells k _ (by
            have := tx_get (l := es.map (·.1)) (k := k) (by rw [List.length_map]; exact hlt)
            rw [this]; simp)
          have hg := mget_at Hnd.out hlt
          have hsn : (plE (es.take (k + 1))).flatMap outT = (plE (es.take k)).flatMap outT ++ outT (es[k].1, es[k].2.2) := by
            unfold plE
            rw [List.take_succ_eq_append_getElem hlt, List.map_append, List.flatMap_append]; simp
          have hbd : ((plE (es.take k)).flatMap outT).length ≤ 2 * k := by
            have key : ∀ l : List (List UInt8 × Fate), (l.flatMap outT).length ≤ 2 * l.length := by
              intro l
              induction l with
              | nil => simp
              | cons a l ih =>
                rw [List.flatMap_cons, List.length_append, List.length_cons]
                have : (outT a).length ≤ 2 := by
                  unfold outT
                  rw [List.length_append]
                  have h1 : (if a.2.read = true then [((1 : Int), a.1)] else []).length ≤ 1 := by split <;> simp
                  have h2 : (if a.2.wrote = true then [((2 : Int), a.1)] else []).length ≤ 1 := by split <;> simp
                  omega
                omega
            have := key (plE (es.take k))
            unfold plE at this ⊢
            rw [List.length_map, List.length_take] at this
            omega
          have Hsn := Lib.hid hsn
          clear hcells h4 hsn
          generalize (plE (es.take k)).flatMap outT = acc at *
          generalize es[k] = y at *
          obtain ⟨p, fb, fr, fw⟩ := y
          simp only at hx0 hg Hsn
          have hr : (if false = true then Value.tuple #[((mget es p).map pV).getD (.pointer none), .bool (mhas es p)] else ((mget es p).map pV).getD (.pointer none)) = .pointer (some ⟨fb, 0, none⟩) := by rw [hg]; rfl
          have hF := Fts.get (HM.at_ 2 rfl) hg
          have v0 := Blk.cell_ hF 0
          have v1 := Blk.cell_ hF 1
          simp only [List.getElem?_toArray, List.getElem?_cons_succ, List.getElem?_cons_zero] at v0 v1
          have hmap := HM.at_ 1 rfl
          have Hg := Lib.hid hg
          clear hF hg
          cases fr with
          | true =>
            cases fw with
            | true =>
              go_wp2_with (first | (at_lookup; refine wpList_get K Tryd.underlying122 zeroPt rfl _ _ false rfl hmap rfl p rfl (.pointer (some ⟨fb, 0, none⟩)) hr ?_) | (at_lookup; refine wpList_get K Tryd.underlying122 zeroPt rfl _ _ false rfl hmapa rfl p rfl (.pointer (some ⟨fb, 0, none⟩)) hr ?_) | (at_builtin; refine wpList_app1 touE rfl _ _ rfl HM rfl #[.int .i64 1, .string (ofL p)] _ rfl ?hnb rfl ?h1 ?hb ?_; (case hnb => simp); (case h1 => simp [Value.oneCell']); (case hb => omega); intro v' wa HMa HUa; obtain ⟨Aa, ca, rfl, xa, xxa⟩ := Row.any_ (HMa.at_ 0 rfl); have hmapa := HMa.at_ 1 rfl; have hFa := Fts.get (HMa.at_ 2 rfl) Hg.out; have v1a := Blk.cell_ hFa 1; simp only [List.getElem?_toArray, List.getElem?_cons_succ, List.getElem?_cons_zero] at v1a; clear hFa) | (at_builtin; refine wpList_app1 touE rfl _ _ rfl HMa rfl #[.int .i64 2, .string (ofL p)] _ rfl ?hnb rfl ?h1 ?hb ?_; (case hnb => simp); (case h1 => simp [Value.oneCell']); (case hb => omega); intro v' wb HMb HUb; obtain ⟨Ab, cb, rfl, xb, xxb⟩ := Row.any_ (HMb.at_ 0 rfl); have hmapb := HMb.at_ 1 rfl; have hFb := Fts.get (HMb.at_ 2 rfl) Hg.out; have v1b := Blk.cell_ hFb 1; simp only [List.getElem?_toArray, List.getElem?_cons_succ, List.getElem?_cons_zero] at v1b; clear hFb))
              have HMz : Mem none_ w [NRow (.slice Ab (acc.length + 1 + 1) cb) ((plE (es.take (k + 1))).flatMap outT), MapC mb kL pV es, Fts es, TRow (.slice (some ⟨b, o, none⟩) es.length c5) (es.map (·.1))] wb := by
                have e : (plE (es.take (k + 1))).flatMap outT = acc ++ ([(1, p)] ++ [(2, p)]) := by rw [Hsn.out]; simp [outT]
                rw [e]
                unfold NRow
                rw [← List.append_assoc, tch_app, tch_app, List.length_append, List.length_append]
                exact HMb
              go_roundw
              case rel => exact ⟨k + 1, by omega, by go_num, HMz⟩
              case measure => simp [intOf]; omega
            | false =>
              go_wp2_with (first | (at_lookup; refine wpList_get K Tryd.underlying122 zeroPt rfl _ _ false rfl hmap rfl p rfl (.pointer (some ⟨fb, 0, none⟩)) hr ?_) | (at_lookup; refine wpList_get K Tryd.underlying122 zeroPt rfl _ _ false rfl hmapa rfl p rfl (.pointer (some ⟨fb, 0, none⟩)) hr ?_) | (at_builtin; refine wpList_app1 touE rfl _ _ rfl HM rfl #[.int .i64 1, .string (ofL p)] _ rfl ?hnb rfl ?h1 ?hb ?_; (case hnb => simp); (case h1 => simp [Value.oneCell']); (case hb => omega); intro v' wa HMa HUa; obtain ⟨Aa, ca, rfl, xa, xxa⟩ := Row.any_ (HMa.at_ 0 rfl); have hmapa := HMa.at_ 1 rfl; have hFa := Fts.get (HMa.at_ 2 rfl) Hg.out; have v1a := Blk.cell_ hFa 1; simp only [List.getElem?_toArray, List.getElem?_cons_succ, List.getElem?_cons_zero] at v1a; clear hFa))
              have HMz : Mem none_ w [NRow (.slice Aa (acc.length + 1) ca) ((plE (es.take (k + 1))).flatMap outT), MapC mb kL pV es, Fts es, TRow (.slice (some ⟨b, o, none⟩) es.length c5) (es.map (·.1))] wa := by
                have e : (plE (es.take (k + 1))).flatMap outT = acc ++ [(1, p)] := by rw [Hsn.out]; simp [outT]
                rw [e]
                unfold NRow
                rw [tch_app, List.length_append]
                exact HMa
              go_roundw
              case rel => exact ⟨k + 1, by omega, by go_num, HMz⟩
              case measure => simp [intOf]; omega
          | false =>
            cases fw with
            | true =>
              go_wp2_with (first | (at_lookup; refine wpList_get K Tryd.underlying122 zeroPt rfl _ _ false rfl hmap rfl p rfl (.pointer (some ⟨fb, 0, none⟩)) hr ?_) | (at_builtin; refine wpList_app1 touE rfl _ _ rfl HM rfl #[.int .i64 2, .string (ofL p)] _ rfl ?hnb rfl ?h1 ?hb ?_; (case hnb => simp); (case h1 => simp [Value.oneCell']); (case hb => omega); intro v' wb HMb HUb; obtain ⟨Ab, cb, rfl, xb, xxb⟩ := Row.any_ (HMb.at_ 0 rfl); have hmapb := HMb.at_ 1 rfl; have hFb := Fts.get (HMb.at_ 2 rfl) Hg.out; have v1b := Blk.cell_ hFb 1; simp only [List.getElem?_toArray, List.getElem?_cons_succ, List.getElem?_cons_zero] at v1b; clear hFb))
              have HMz : Mem none_ w [NRow (.slice Ab (acc.length + 1) cb) ((plE (es.take (k + 1))).flatMap outT), MapC mb kL pV es, Fts es, TRow (.slice (some ⟨b, o, none⟩) es.length c5) (es.map (·.1))] wb := by
                have e : (plE (es.take (k + 1))).flatMap outT = acc ++ [(2, p)] := by rw [Hsn.out]; simp [outT]
                rw [e]
                unfold NRow
                rw [tch_app, List.length_append]
                exact HMb
              go_roundw
              case rel => exact ⟨k + 1, by omega, by go_num, HMz⟩
              case measure => simp [intOf]; omega
            | false =>
              go_wp2_with (first | (at_lookup; refine wpList_get K Tryd.underlying122 zeroPt rfl _ _ false rfl hmap rfl p rfl (.pointer (some ⟨fb, 0, none⟩)) hr ?_))
              have HMz : Mem none_ w [NRow u8 ((plE (es.take (k + 1))).flatMap outT), MapC mb kL pV es, Fts es, TRow (.slice (some ⟨b, o, none⟩) es.length c5) (es.map (·.1))] wr := by rw [Hsn.out]; simpa [outT] using HM
              go_roundw
              case rel => exact ⟨k + 1, by omega, by go_num, HMz⟩
              case measure => simp [intOf]; omega
        · have hlt' : decide ((k : Int) < (es.length : Int)) = false := decide_eq_false (by omega)
          have hltN : decide (k < es.length) = false := decide_eq_false hlt
          have e : k = es.length := by omega
          subst e
          rw [List.take_length, ← Hout.out] at HM
          have HMz : Mem none_ w [NRow u8 (seenL ts)] wr := HM.sel [0] (by decide)
          go_wp2_with fail
          go_ret
          exact ⟨_, rfl, HMz⟩
end
end Go.Proofs.YtnpehlkdfbmnkaaDoor
