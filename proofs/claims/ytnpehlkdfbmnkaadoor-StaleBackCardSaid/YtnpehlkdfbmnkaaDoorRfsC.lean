/-
  The document's store: set, note.
-/
import Derived.Test.YtnpehlkdfbmnkaaDoorRfsB
set_option linter.unusedVariables false
set_option linter.unusedSimpArgs false
set_option maxRecDepth 20000
namespace Go.Proofs.YtnpehlkdfbmnkaaDoor
open Go.RowKit

theorem addr_add (b j : Nat) : (⟨b, 0, none⟩ : Addr).add j = ⟨b, j, none⟩ := by unfold Addr.add; split <;> simp_all
theorem filE : Elem Tryd.prog 79 129 4 48 := Elem.of (z := .agg #[.string ⟨#[]⟩, .string ⟨#[]⟩, .int .i64 0, .bool false]) Tryd.underlying79 (by kernel_rfl) rfl (by decide) (by decide)
theorem fls_len (l : List (List UInt8 × VF)) : (fls l).length = l.length * 4 := by
  induction l with
  | nil => rfl
  | cons x l ih =>
    have e : fls (x :: l) = [.string (ofL x.1), .string (ofL x.2.text), .int .i64 x.2.time, .bool x.2.dir] ++ fls l := rfl
    rw [e, List.length_append, ih]; simp; omega
theorem fls_app (l : List (List UInt8 × VF)) (x : List UInt8 × VF) : fls (l ++ [x]) = fls l ++ [.string (ofL x.1), .string (ofL x.2.text), .int .i64 x.2.time, .bool x.2.dir] := by simp [fls]
theorem fls_one (l : List (List UInt8 × VF)) : ∀ u ∈ fls l, u.oneCell' = true := by
  intro u hu
  obtain ⟨x, _, hx⟩ := List.mem_flatMap.1 hu
  simp at hx
  rcases hx with rfl | rfl | rfl | rfl <;> rfl
theorem fls_set (x : List UInt8 × VF) : ∀ (l : List (List UInt8 × VF)) (i : Nat), i < l.length →
    fls (l.set i x) = ((((fls l).set (i * 4) (.string (ofL x.1))).set (i * 4 + 1) (.string (ofL x.2.text))).set (i * 4 + 2) (.int .i64 x.2.time)).set (i * 4 + 3) (.bool x.2.dir)
  | [], i, h => by simp at h
  | y :: l, 0, h => rfl
  | y :: l, i + 1, h => by
    have ih := fls_set x l i (by simpa using h)
    have e : ∀ z (m : List (List UInt8 × VF)), fls (z :: m) = [.string (ofL z.1), .string (ofL z.2.text), .int .i64 z.2.time, .bool z.2.dir] ++ fls m := fun _ _ => rfl
    rw [List.set_cons_succ, e, e, ih]
    have e4 : (i + 1) * 4 = i * 4 + 1 + 1 + 1 + 1 := by omega
    rw [e4]
    rfl
theorem mput_idx {s : St} {q : List UInt8} (v : VF) : (atS s q = -1 → mput s.files q v = s.files ++ [(q, v)]) ∧ (∀ i : Nat, atS s q = i → mput s.files q v = s.files.set i (q, v)) := by
  unfold atS mput idxS
  cases h : s.files.findIdx? (fun p => decide (q = p.1)) with
  | none => exact ⟨fun _ => rfl, fun i hi => by have : (-1 : Int) = i := hi; omega⟩
  | some i => exact ⟨fun hi => by have : (i : Int) = -1 := hi; omega, fun j hj => by have hj' : (i : Int) = j := hj; have : i = j := by omega
                                                                                     subst this; rfl⟩
section
variable {rb : Nat} {lv nv : Value} {s : St} {w : World}
set_option maxHeartbeats 8000000 in
theorem rset_calls (h : (RefC rb lv nv s).ok w) (hl : s.files.length ≤ 512) (hpos : 0 < s.files.length) (hc0 : 0 ≤ s.clock) (hck : s.clock ≤ 4611686018427387904) (q : List UInt8) (f : VF) :
    Calls Tryd.prog 68 #[ptr rb, .agg #[.string (ofL q), .string (ofL f.text), .int .i64 f.time, .bool f.dir]] w fun e w' => e = .returned (.tuple #[]) ∧ ∃ lv', Mem (RefC rb lv nv s).fp w [RefC rb lv' nv (putS s q f)] w' := by
  obtain ⟨ft, fm, fd⟩ := f
  have hM := at_mget s q
  have hP := mput_idx (s := s) (q := q) ⟨ft, s.clock + 1, fd⟩
  obtain ⟨M, hMe⟩ : ∃ M, mput s.files q ⟨ft, s.clock + 1, fd⟩ = M := ⟨_, rfl⟩
  rw [hMe] at hP
  have hS : Hid (putS s q ⟨ft, fm, fd⟩ = { s with clock := s.clock + 1, used := s.used + ((ft.length : Int) - ((txtS s q).length : Int)), files := M }) := by unfold Hid; rw [← hMe]; rfl
  obtain ⟨s', hs'⟩ : ∃ s', putS s q ⟨ft, fm, fd⟩ = s' := ⟨_, rfl⟩
  rw [hs'] at hS ⊢
  clear hs' hMe
  simp only
  obtain ⟨b, c, rfl, g1, g2⟩ := Row.at_ (RefC.row h) hpos
  unfold maxLen at g2
  have HM0 := (RefC.mem h).box #[.string (ofL q), .string (ofL ft), .int .i64 fm, .bool fd] 129
  clear h
  have x1 := Blk.cell_ (HM0.at_ 1 rfl) 1
  have y1 := Blk.frozen (HM0.at_ 1 rfl) 1
  simp only [List.getElem?_toArray, List.getElem?_cons_succ, List.getElem?_cons_zero] at x1
  have hw1 : IntKind.i64.wrap (s.clock + 1) = s.clock + 1 := IntWalk.i64_in _ (by omega)
  have HM1 : Mem (RefC rb (.slice (some ⟨b, 0, none⟩) s.files.length c) nv s).fp w (Blk rb 81 #[.int .i64 s.room, .int .i64 s.clock, .slice (some ⟨b, 0, none⟩) s.files.length c, .bool s.noting, nv] :: [Blk w.heap.size 129 #[.string (ofL q), .string (ofL ft), .int .i64 fm, .bool fd], FRow (.slice (some ⟨b, 0, none⟩) s.files.length c) s.files, NRow nv s.notes]) (w.alloc (.cells #[.string (ofL q), .string (ofL ft), .int .i64 fm, .bool fd] 129)) := HM0.sel [1, 0, 2, 3] (by decide)
  have HM2 := HM1.blkSet 1 (.int .i64 (s.clock + 1))
  have HM3 : Mem (RefC rb (.slice (some ⟨b, 0, none⟩) s.files.length c) nv s).fp w (Blk w.heap.size 129 #[.string (ofL q), .string (ofL ft), .int .i64 fm, .bool fd] :: [Blk rb 81 #[.int .i64 s.room, .int .i64 (s.clock + 1), .slice (some ⟨b, 0, none⟩) s.files.length c, .bool s.noting, nv], FRow (.slice (some ⟨b, 0, none⟩) s.files.length c) s.files, NRow nv s.notes]) ((w.alloc (.cells #[.string (ofL q), .string (ofL ft), .int .i64 fm, .bool fd] 129)).setCell ⟨rb, 1, none⟩ (.int .i64 (s.clock + 1))) := HM2.sel [1, 0, 2, 3] (by decide)
  have HM4 := HM3.blkSet 2 (.int .i64 (s.clock + 1))
  simp only [List.setIfInBounds_toArray, List.set_cons_zero, List.set_cons_succ] at HM4
  have x2 := Blk.cell_ (HM4.at_ 1 rfl) 2
  simp only [List.getElem?_toArray, List.getElem?_cons_succ, List.getElem?_cons_zero] at x2
  have HM5 : Mem _ w (FRow (.slice none 0 0) [] :: _) _ := Mem.new HM4 (Mut.refl _ _) (by exact World.ownsRow_nil _ _ _ _) (by intro b hb; cases hb)
  have HM5' := Lib.hid HM5
  have hrow := fun (j : Nat) (u : Value) (hu : (fls s.files)[j]? = some u) => (congrArg _ (addr_add b j)).trans (Row.cell (HM5.at_ 3 rfl) (j := j) (u := u) hu)
  have Hrow := Lib.hid hrow
  clear HM0 HM1 HM2 HM3 HM4 HM5 hrow
  go_enter Tryd.func68, Tryd.ntmps68
  go_wp2_with (at_builtin; refine wpList_app filE rfl _ _ rfl HM5'.out rfl ⟨b, 0, none⟩ s.files.length c (fls s.files) rfl (fls_len _) Hrow.out (fls_one _) (by show (0 + s.files.length) * 48 ≤ _; omega) ?_; intro v' w' HM6 HU6 hv6; have HM7 := Lib.hid HM6; clear HM6 HU6 hv6; obtain ⟨A', c', rfl, q1, q2⟩ := Row.any_ (HM7.out.at_ 0 rfl); have fb0 := Blk.cell_ (HM7.out.at_ 1 rfl) 0; simp only [List.getElem?_toArray, List.getElem?_cons_succ, List.getElem?_cons_zero] at fb0)
  have HM8 : Mem (RefC rb (.slice (some ⟨b, 0, none⟩) s.files.length c) nv s).fp w (FRow (.slice A' s.files.length c') s.files :: [Blk w.heap.size 129 #[.string (ofL q), .string (ofL ft), .int .i64 (s.clock + 1), .bool fd], Blk rb 81 #[.int .i64 s.room, .int .i64 (s.clock + 1), .slice (some ⟨b, 0, none⟩) s.files.length c, .bool s.noting, nv], FRow (.slice (some ⟨b, 0, none⟩) s.files.length c) s.files, NRow nv s.notes]) w' := by
    have := HM7.out
    have e : ([] : List (List UInt8 × VF)).length + s.files.length = s.files.length := Nat.zero_add _
    rw [e] at this
    exact this
  clear HM7 x1 y1 x2 HM5' Hrow fb0
  have hR1 : (RefC rb (.slice (some ⟨b, 0, none⟩) s.files.length c) nv { s with clock := s.clock + 1 }).ok w' := (Mem.shut_ (cs := RefF rb (.slice (some ⟨b, 0, none⟩) s.files.length c) nv { s with clock := s.clock + 1 }) (F := []) (HM8.sel [2, 3, 4] (by decide))).head
  have hA := at_calls hR1 hl q
  have ea : atS { s with clock := s.clock + 1 } q = atS s q := rfl
  rw [ea] at hA
  clear hR1 ea
  have HM9 : Mem (RefC rb (.slice (some ⟨b, 0, none⟩) s.files.length c) nv s).fp w [FRow (.slice A' s.files.length c') s.files, Blk w.heap.size 129 #[.string (ofL q), .string (ofL ft), .int .i64 (s.clock + 1), .bool fd], Blk rb 81 #[.int .i64 s.room, .int .i64 (s.clock + 1), .slice (some ⟨b, 0, none⟩) s.files.length c, .bool s.noting, nv], NRow nv s.notes] w' := HM8.sel [0, 1, 2, 4] (by decide)
  clear HM8
  have hP' := Lib.hid hP
  clear hP
  generalize atS s q = ix at *
  refine hA.mono ?_
  rintro e w2 ⟨rfl, rfl⟩
  clear hA
  have d0 := Blk.cell_ (HM9.at_ 1 rfl) 0
  have d1 := Blk.cell_ (HM9.at_ 1 rfl) 1
  have d2 := Blk.cell_ (HM9.at_ 1 rfl) 2
  have d3 := Blk.cell_ (HM9.at_ 1 rfl) 3
  simp only [List.getElem?_toArray, List.getElem?_cons_succ, List.getElem?_cons_zero] at d0 d1 d2 d3
  rcases hM with ⟨rfl, _⟩ | ⟨i, hi, rfl, _, _⟩
  · have HP : Hid (M = s.files ++ [(q, ⟨ft, s.clock + 1, fd⟩)]) := hP'.out.1 rfl
    clear hP'
    go_wp2_with (at_builtin; refine wpList_app1 filE rfl _ _ rfl HM9 rfl #[.string (ofL q), .string (ofL ft), .int .i64 (s.clock + 1), .bool fd] _ rfl ?hnb rfl ?h1 ?hb ?_; (case hnb => simp); (case h1 => simp [Value.oneCell']); (case hb => omega); intro v2 w3 HM10 HU; obtain ⟨A2, c2, rfl, r1, r2⟩ := Row.any_ (HM10.at_ 0 rfl); have z2 := Blk.frozen (HM10.at_ 2 rfl) 2; have c2' := Blk.cell_ (HM10.at_ 2 rfl) 2; simp only [List.getElem?_toArray, List.getElem?_cons_succ, List.getElem?_cons_zero] at c2'; clear d0 d1 d2 d3)
    have HM11 : Mem (RefC rb (.slice (some ⟨b, 0, none⟩) s.files.length c) nv s).fp w (Blk rb 81 #[.int .i64 s.room, .int .i64 (s.clock + 1), .slice (some ⟨b, 0, none⟩) s.files.length c, .bool s.noting, nv] :: [FRow (.slice A2 (s.files.length + 1) c2) M, NRow nv s.notes]) w3 := by
      have := HM10.sel [2, 0, 3] (by decide)
      rw [HP.out]
      unfold FRow
      rw [fls_app, List.length_append]
      exact this
    have HM12 := HM11.blkSet 2 (.slice A2 (s.files.length + 1) c2)
    simp only [List.setIfInBounds_toArray, List.set_cons_zero, List.set_cons_succ] at HM12
    go_end0
    refine ⟨rfl, .slice A2 (s.files.length + 1) c2, ?_⟩
    rw [hS.out]
    exact Mem.shut_ (F := []) (cs := RefF rb (.slice A2 (s.files.length + 1) c2) nv _) (by rw [List.append_nil]; exact HM12)
  · have HP : Hid (M = s.files.set i (q, ⟨ft, s.clock + 1, fd⟩)) := hP'.out.2 i rfl
    clear hP'
    obtain ⟨g, cg, eg, _, _⟩ := Row.at_ (HM9.at_ 0 rfl) hpos
    cases eg
    have hi0 : decide ((i : Int) < 0) = false := decide_eq_false (by omega)
    have hi1 : decide ((i : Int) < (s.files.length : Int)) = true := decide_eq_true (by omega)
    have fg := fls_get hi
    have k0 := Row.cell (HM9.at_ 0 rfl) fg.1
    have k1 := Row.cell (HM9.at_ 0 rfl) fg.2.1
    have k2 := Row.cell (HM9.at_ 0 rfl) fg.2.2.1
    have k3 := Row.cell (HM9.at_ 0 rfl) fg.2.2.2
    have j0 := Row.frozen (HM9.at_ 0 rfl) (i * 4)
    have j1 := Row.frozen (HM9.at_ 0 rfl) (i * 4 + 1)
    have j2 := Row.frozen (HM9.at_ 0 rfl) (i * 4 + 2)
    have j3 := Row.frozen (HM9.at_ 0 rfl) (i * 4 + 3)
    have HM10 := (((HM9.rowSet (j := i * 4) (by omega) (.string (ofL q))).rowSet (j := i * 4 + 1) (by omega) (.string (ofL ft))).rowSet (j := i * 4 + 2) (by omega) (.int .i64 (s.clock + 1))).rowSet (j := i * 4 + 3) (by omega) (.bool fd)
    have z2 := Blk.frozen (HM10.at_ 2 rfl) 2
    have c2' := Blk.cell_ (HM10.at_ 2 rfl) 2
    simp only [List.getElem?_toArray, List.getElem?_cons_succ, List.getElem?_cons_zero] at c2'
    have HM10' := Lib.hid HM10
    clear HM10 fg HM9
    go_wp2_with fail
    have HM11 : Mem (RefC rb (.slice (some ⟨b, 0, none⟩) s.files.length c) nv s).fp w (Blk rb 81 #[.int .i64 s.room, .int .i64 (s.clock + 1), .slice (some ⟨b, 0, none⟩) s.files.length c, .bool s.noting, nv] :: [FRow (.slice (some ⟨g, 0, none⟩) s.files.length c') M, NRow nv s.notes]) ((((w'.setCell ⟨g, i * 4, none⟩ (.string (ofL q))).setCell ⟨g, i * 4 + 1, none⟩ (.string (ofL ft))).setCell ⟨g, i * 4 + 2, none⟩ (.int .i64 (s.clock + 1))).setCell ⟨g, i * 4 + 3, none⟩ (.bool fd)) := by
      have := HM10'.out.sel [2, 0, 3] (by decide)
      rw [HP.out]
      unfold FRow
      rw [fls_set _ _ _ hi, List.length_set]
      exact this
    have HM12 := HM11.blkSet 2 (.slice (some ⟨g, 0, none⟩) s.files.length c')
    simp only [List.setIfInBounds_toArray, List.set_cons_zero, List.set_cons_succ] at HM12
    go_end0
    refine ⟨rfl, .slice (some ⟨g, 0, none⟩) s.files.length c', ?_⟩
    rw [hS.out]
    exact Mem.shut_ (F := []) (cs := RefF rb (.slice (some ⟨g, 0, none⟩) s.files.length c') nv _) (by rw [List.append_nil]; exact HM12)
end
end Go.Proofs.YtnpehlkdfbmnkaaDoor
