/-
  The walks of layer 15 (suff): chains, and what can be reached.
-/
import Derived.Test.YtliglejbkpjamaaSuffC
set_option linter.unusedVariables false
set_option linter.unusedSimpArgs false
namespace Go.Proofs.Ytliglejbkpjamaa
open Go.RowKit

def mval (m : List (ByteArray × ByteArray)) (x : ByteArray) : ByteArray := (mget m x).getD ⟨#[]⟩
/-- The way up from a name. -/
def up (m : List (ByteArray × ByteArray)) (name : ByteArray) : Nat → ByteArray → Option (List ByteArray)
  | 0, _ => none
  | n + 1, x => if x = name then some [] else (up m name n (mval m x)).map (mval m x :: ·)

theorem mval_get (m : List (ByteArray × ByteArray)) (x : ByteArray) : ((mget m x).map Value.string).getD (.string ⟨#[]⟩) = .string (mval m x) := by
  unfold mval; cases mget m x <;> rfl

theorem strs_nil (w : World) : Strs w (.slice none 0 0) [] := ⟨none, 0, rfl, Nat.le_refl _, Nat.zero_le _, rfl, .inl rfl⟩

set_option maxHeartbeats 1000000 in
theorem chain_no (SV WV TV : Value) (s : List ByteArray) (ways : List (ByteArray × ByteArray)) (name : ByteArray) (w : World) (hS : Strs w SV s) (hW : Prs w WV ways) (hr : rightOf s ways = false) :
    Calls Try.prog 76 #[.agg #[SV, WV], .string name, TV] w fun e w' => e = .returned (.tuple #[.slice none 0 0, .bool false]) ∧ Mem none_ w [] w' := by
  obtain ⟨A, c, rfl, h1, h2, h3, h4⟩ := id hS
  obtain ⟨A', c', rfl, h1', h2', h3', h4'⟩ := id hW
  have HM0 := ((Mem.start (fp := none_) w).alloc (.cells #[.slice A s.length c, .slice A' ways.length c'] 59))
  go_enter Try.func76, Try.ntmps76
  go_wp2_with (go_at_call 96; refine (walk_no _ _ _ s ways _ _ (hS.pure HM0.mu) (hW.pure HM0.mu) hr).mono ?_; rintro e w' ⟨rfl, HM1⟩)
  go_ret2
  exact ⟨rfl, HM0.got HM1⟩

/-- Is the last one what was looked for? -/
def hit (ways : List (ByteArray × ByteArray)) (name : ByteArray) (there : List ByteArray) : Bool :=
  match (walkOf ways name there).1.all.getLast? with | none => false | some x => (x.toList == (walkOf ways name there).2.toList) && mem there (walkOf ways name there).2

set_option maxHeartbeats 2000000 in
theorem chain_miss (SV WV TV : Value) (s : List ByteArray) (ways : List (ByteArray × ByteArray)) (name : ByteArray) (there : List ByteArray) (w : World) (hS : Strs w SV s) (hW : Prs w WV ways) (hT : Strs w TV there) (hr : rightOf s ways = true)
    (hn : name.size ≤ 1099511627776) (hw : ∀ p, p ∈ ways → p.1.size ≤ 1099511627776) (hl : ways.length ≤ 256) (hh : hit ways name there = false) :
    Calls Try.prog 76 #[.agg #[SV, WV], .string name, TV] w fun e w' => e = .returned (.tuple #[.slice none 0 0, .bool false]) ∧ Mem none_ w [] w' := by
  obtain ⟨A, c, rfl, h1, h2, h3, h4⟩ := id hS
  obtain ⟨A', c', rfl, h1', h2', h3', h4'⟩ := id hW
  have HM0 := ((Mem.start (fp := none_) w).alloc (.cells #[.slice A s.length c, .slice A' ways.length c'] 59))
  unfold hit at hh
  have HC := walk_yes _ _ _ s ways name there _ (hS.pure HM0.mu) (hW.pure HM0.mu) (hT.pure HM0.mu) hr hn hw hl
  generalize (walkOf ways name there).1 = st at *
  generalize (walkOf ways name there).2 = f at *
  rcases List.eq_nil_or_concat st.all with h | ⟨l0, x, h⟩
  · go_enter Try.func76, Try.ntmps76
    go_wp2_with (go_at_call 96; refine HC.mono ?_; rintro e w1 ⟨v1, b1, rfl, HM1⟩; rw [h] at HM1; obtain ⟨A1, c1, rfl, hv1, hv2, hv3, hv4⟩ := Row.sl HM1.head)
    go_ret2
    exact ⟨rfl, HM0.got (HM1.sel [] (by decide))⟩
  · rw [h] at hh
    simp only [List.concat_eq_append, List.getLast?_append, List.getLast?_singleton, Option.some_or] at hh
    cases he : (x.toList == f.toList)
    · go_enter Try.func76, Try.ntmps76
      go_wp2_with (go_at_call 96; refine HC.mono ?_; rintro e w1 ⟨v1, b1, rfl, HM1⟩; rw [h, List.concat_eq_append] at HM1; obtain ⟨A1, c1, rfl, hv1, hv2, hv3, hv4⟩ := Row.sl HM1.head; unfold maxLen at hv2; rw [List.length_append, List.length_singleton] at *; obtain ⟨b2, o2, rfl, hcells⟩ := hv4.resolve_left (by omega); have hx0 : w1.cell? ⟨b2, o2 + l0.length, none⟩ = some (.string x) := hcells l0.length _ (by simp [strs]); clear hcells)
      go_ret2
      exact ⟨rfl, HM0.got (HM1.sel [] (by decide))⟩
    · have hm : mem there f = false := by rw [he] at hh; exact hh
      clear hh
      go_enter Try.func76, Try.ntmps76
      go_wp2_with (first | (go_at_call 96; refine HC.mono ?_; rintro e w1 ⟨v1, b1, rfl, HM1⟩; rw [h, List.concat_eq_append] at HM1; obtain ⟨A1, c1, rfl, hv1, hv2, hv3, hv4⟩ := Row.sl HM1.head; unfold maxLen at hv2; rw [List.length_append, List.length_singleton] at *; obtain ⟨b2, o2, rfl, hcells⟩ := hv4.resolve_left (by omega); have hx0 : w1.cell? ⟨b2, o2 + l0.length, none⟩ = some (.string x) := hcells l0.length _ (by simp [strs]); clear hcells) | (go_at_call 41; refine (contains_calls _ _ _ _ (hT.pure (HM0.got HM1).mu)).mono ?_; rintro e w2 ⟨rfl, rfl⟩))
      go_ret2
      exact ⟨rfl, HM0.got (HM1.sel [] (by decide))⟩

theorem up_succ {m : List (ByteArray × ByteArray)} {name x : ByteArray} {n : Nat} {l : List ByteArray} (h : up m name (n + 1) x = some l) : (x = name ∧ l = []) ∨ (x ≠ name ∧ ∃ l', l = mval m x :: l' ∧ up m name n (mval m x) = some l') := by
  unfold up at h
  split at h
  · rename_i hx; cases h; exact .inl ⟨hx, rfl⟩
  · rename_i hx
    obtain ⟨l', h1, h2⟩ := Option.map_eq_some_iff.1 h
    exact .inr ⟨hx, l', h2.symm, h1⟩

set_option maxHeartbeats 2000000 in
theorem chain_hit (SV WV TV : Value) (s : List ByteArray) (ways : List (ByteArray × ByteArray)) (name : ByteArray) (there : List ByteArray) (w : World) (hS : Strs w SV s) (hW : Prs w WV ways) (hT : Strs w TV there) (hr : rightOf s ways = true)
    (hn : name.size ≤ 1099511627776) (hw : ∀ p, p ∈ ways → p.1.size ≤ 1099511627776) (hl : ways.length ≤ 256) (hh : hit ways name there = true) (N : Nat) (hN : N ≤ 1000) (L : List ByteArray) (hup : up (walkOf ways name there).1.makes name N (walkOf ways name there).2 = some L) :
    Calls Try.prog 76 #[.agg #[SV, WV], .string name, TV] w fun e w' => ∃ v, e = .returned (.tuple #[v, .bool true]) ∧ Mem none_ w [StrRow v ((walkOf ways name there).2 :: L)] w' := by
  obtain ⟨A, c, rfl, h1, h2, h3, h4⟩ := id hS
  obtain ⟨A', c', rfl, h1', h2', h3', h4'⟩ := id hW
  have HM0 := ((Mem.start (fp := none_) w).alloc (.cells #[.slice A s.length c, .slice A' ways.length c'] 59))
  unfold hit at hh
  have HC := walk_yes _ _ _ s ways name there _ (hS.pure HM0.mu) (hW.pure HM0.mu) (hT.pure HM0.mu) hr hn hw hl
  generalize (walkOf ways name there).1 = st at *
  generalize (walkOf ways name there).2 = f at *
  rcases List.eq_nil_or_concat st.all with h | ⟨l0, x, h⟩
  · rw [h] at hh; cases hh
  · rw [h] at hh
    simp only [List.concat_eq_append, List.getLast?_append, List.getLast?_singleton, Option.some_or, Bool.and_eq_true] at hh
    obtain ⟨he, hm⟩ := hh
    have HUP := Lib.hid hup
    clear hup
    go_enter Try.func76, Try.ntmps76
    go_wp2_with (first | (go_at_call 96; refine HC.mono ?_; rintro e w1 ⟨v1, b1, rfl, HM1⟩; rw [h, List.concat_eq_append] at HM1; obtain ⟨A1, c1, rfl, hv1, hv2, hv3, hv4⟩ := Row.sl HM1.head; unfold maxLen at hv2; rw [List.length_append, List.length_singleton] at *; obtain ⟨b2, o2, rfl, hcells⟩ := hv4.resolve_left (by omega); have hx0 : w1.cell? ⟨b2, o2 + l0.length, none⟩ = some (.string x) := hcells l0.length _ (by simp [strs]); clear hcells) | (go_at_call 41; refine (contains_calls _ _ _ _ (hT.pure (HM0.got HM1).mu)).mono ?_; rintro e w2 ⟨rfl, rfl⟩))
    have HM2 := ((HM0.got HM1).sel [1] (by decide)).lit1 f
    go_loopg [12, 13] N (fun n v12 v13 wr => ∃ (y : ByteArray) (l l' : List ByteArray), v13 = .string y ∧ n ≤ N ∧ l.length + n ≤ N + 1 ∧ Hid (up st.makes name n y = some l') ∧ Hid (f :: L = l ++ l') ∧ Mem none_ w [StrRow v12 l, MapC b1 Value.string Value.string st.makes] wr)
    case atStart => exact ⟨f, [f], L, rfl, Nat.le_refl _, by simp; omega, HUP, by unfold Hid; rfl, HM2⟩
    case round =>
      clear HM2 HUP
      obtain ⟨y, l, l', rfl, hg, hlen, HU, HL, HM⟩ := hrel
      cases gk with
      | zero => have := HU.out; unfold up at this; cases this
      | succ n =>
        rcases up_succ HU.out with ⟨hy, hl'⟩ | ⟨hy, l2, hl', hu2⟩
        · have ht : (y.toList == name.toList) = true := by rw [strEq, hy]; simp
          have HF : Hid (f :: L = l) := by unfold Hid; rw [HL.out, hl', List.append_nil]
          clear hy hl'
          go_wp2
          go_ret2
          exact ⟨_, rfl, by rw [HF.out]; exact HM.sel [0] (by decide)⟩
        · have ht : (y.toList == name.toList) = false := by rw [strEq]; simpa using hy
          have HU2 : Hid (up st.makes name n (mval st.makes y) = some l2) := hu2
          have HL2 : Hid (f :: L = (l ++ [mval st.makes y]) ++ l2) := by unfold Hid; rw [HL.out, hl']; simp
          clear hy hl' hu2
          go_wp2_with (first | (at_lookup; refine wpList_get keyS Try.underlying64 zeroS rfl _ _ _ rfl HM.tail.head rfl _ rfl _ (mval_get _ _) ?_) | (at_builtin; refine wpList_appS strE rfl _ _ rfl HM rfl _ _ rfl ?hnb ?hb ?_; (case hnb => simp); (case hb => omega); intro v5 w5 HM7 HU7))
          go_roundg n
          case rel => exact ⟨_, _, l2, rfl, by omega, by simp; omega, HU2, HL2, HM7⟩
          case measure => omega
end Go.Proofs.Ytliglejbkpjamaa
