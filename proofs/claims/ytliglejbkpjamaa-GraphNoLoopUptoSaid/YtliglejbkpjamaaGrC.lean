/-
  Layer 16 (graph): sources; wrong; far.
-/
import Derived.Test.YtliglejbkpjamaaGrB
set_option linter.unusedVariables false
set_option linter.unusedSimpArgs false
set_option maxRecDepth 20000
namespace Go.Proofs.Ytliglejbkpjamaa
open Go.RowKit

def waitN : ByteArray := ⟨#[46, 87, 65, 73, 84]⟩
def srcStep (out : List ByteArray) (s : ByteArray) : List ByteArray := if s = waitN ∨ mem out s = true then out else out ++ [s]
/-- Texts, each once, without waits. -/
def srcB (l : List ByteArray) : List ByteArray := l.foldl srcStep []
theorem srcB_snoc (l : List ByteArray) (k : Nat) (h : k < l.length) : srcB (l.take (k + 1)) = srcStep (srcB (l.take k)) l[k] := by
  rw [List.take_succ_eq_append_getElem h]
  unfold srcB
  rw [List.foldl_append]; rfl
theorem srcStep_len (out : List ByteArray) (s : ByteArray) : (srcStep out s).length ≤ out.length + 1 := by unfold srcStep; split <;> simp
theorem srcB_len (l : List ByteArray) : ∀ k, k ≤ l.length → (srcB (l.take k)).length ≤ k
  | 0, _ => by simp [srcB]
  | k + 1, h => by
    rw [srcB_snoc l k (by omega)]
    have := srcStep_len (srcB (l.take k)) (l[k]'(by omega))
    have := srcB_len l k (by omega)
    omega
theorem srcB_good (l : List ByteArray) : (srcB l).Nodup ∧ waitN ∉ srcB l ∧ ∀ s, s ∈ srcB l → s ∈ l := by
  have key : ∀ (l out : List ByteArray), out.Nodup → waitN ∉ out → (l.foldl srcStep out).Nodup ∧ waitN ∉ l.foldl srcStep out ∧ ∀ s, s ∈ l.foldl srcStep out → s ∈ out ∨ s ∈ l := by
    intro l
    induction l with
    | nil => intro out h1 h2; exact ⟨h1, h2, fun s hs => .inl hs⟩
    | cons x l ih =>
      intro out h1 h2
      rw [List.foldl_cons]
      by_cases hx : x = waitN ∨ mem out x = true
      · have e : srcStep out x = out := by unfold srcStep; rw [if_pos hx]
        rw [e]
        obtain ⟨a, b, c⟩ := ih out h1 h2
        exact ⟨a, b, fun s hs => (c s hs).imp id (fun h => by simp [h])⟩
      · have e : srcStep out x = out ++ [x] := by unfold srcStep; rw [if_neg hx]
        rw [e]
        obtain ⟨a, b, c⟩ := ih (out ++ [x]) (by
          rw [List.nodup_append]
          refine ⟨h1, by simp, fun p hp q hq e => ?_⟩
          simp at hq
          exact hx (.inr ((mem_iff out x).2 (by rw [← hq, ← e]; exact hp)))) (by
          intro h
          rcases List.mem_append.1 h with h | h
          · exact h2 h
          · simp at h; exact hx (.inl h.symm))
        refine ⟨a, b, fun s hs => ?_⟩
        rcases c s hs with h | h
        · rcases List.mem_append.1 h with h | h
          · exact .inl h
          · simp at h; exact .inr (by simp [h])
        · exact .inr (by simp [h])
  obtain ⟨a, b, c⟩ := key l [] (by simp) (by simp)
  exact ⟨a, b, fun s hs => (c s hs).resolve_left (by simp)⟩
set_option maxHeartbeats 8000000 in
theorem sources_calls (V : Value) (l : List ByteArray) (w : World) (hV : Strs w V l) (hl : l.length ≤ 4000000) :
    Calls Try.prog 67 #[V] w fun e w' => ∃ v, e = .returned v ∧ Mem none_ w [StrRow v (srcB l)] w' := by
  obtain ⟨A, c, rfl, h1, h2, h3, h4⟩ := hV
  unfold maxLen at h2
  have K := keyStr (P := Try.prog) Try.underlying9
  have hmm := @run_makeMap Try.prog
  have HM0 := MapC.made (Mem.start (fp := none_) w) Value.string setV
  go_enter Try.func67, Try.ntmps67
  go_wp2_with (first | (refine wpList_put K Try.underlying61 rfl _ _ _ (.inr rfl) HM0 rfl waitN rfl () rfl ?_; intro w2 HM2 HU2; have HM2' := Lib.hid HM2; clear HM2 HU2 HM0))
  have HM3 : Hid (Mem none_ w [MapC w.heap.size Value.string setV [(waitN, ())], StrRow (.slice none 0 0) []] w2) := (Mem.nilS HM2'.out).sel [1, 0] (by decide)
  clear HM2'
  generalize w.heap.size = mb at *
  go_loopw [4, 11] (fun v4 v11 wr => ∃ (k : Nat) (m : List (ByteArray × Unit)), k ≤ l.length ∧ v11 = .int .i64 k ∧ Hid (∀ s, mhas m s = decide (s = waitN ∨ mem (srcB (l.take k)) s = true)) ∧ Mem none_ w [MapC mb Value.string setV m, StrRow v4 (srcB (l.take k))] wr) (fun _ v _ => l.length - (intOf v).toNat)
  case atStart =>
    refine ⟨0, _, Nat.zero_le _, rfl, fun s => ?_, HM3.out⟩
    unfold mhas
    rw [mget_cons]
    by_cases h : s = waitN
    · simp [h, srcB, mem]
    · simp [h, srcB, mem, mget_nil]
  case round =>
    clear HM3
    obtain ⟨k, m, hk, rfl, HI, HM⟩ := hrel
    by_cases hlt : k < l.length
    · have hlt' : decide ((k : Int) < (l.length : Int)) = true := decide_eq_true (by omega)
      have hltN : decide (k < l.length) = true := decide_eq_true hlt
      obtain ⟨b, o, rfl, hcells⟩ := h4.resolve_left (by omega)
      have x0 : wr.cell? ⟨b, o + k, none⟩ = some (.string l[k]) := Pure.cell HM.mu (hcells _ _ (strs_get hlt))
      have hsn := srcB_snoc l k hlt
      have hsl := srcB_len l k hk
      clear hcells h4 h3
      generalize l[k] = s at *
      generalize srcB (l.take k) = out at *
      have hmap := HM.at_ 0 rfl
      have hr : (if false = true then Value.tuple #[((mget m s).map setV).getD (.bool false), .bool (mhas m s)] else ((mget m s).map setV).getD (.bool false)) = .bool (mhas m s) := by rw [if_neg (by decide), set_get]
      by_cases hs : s = waitN ∨ mem out s = true
      · have hm : mhas m s = true := by rw [HI.out]; exact decide_eq_true hs
        have he : Hid (srcB (l.take (k + 1)) = out) := by unfold Hid; rw [hsn]; unfold srcStep; rw [if_pos hs]
        rw [hm] at hr
        clear hs hsn hm
        go_wp2_with (at_lookup; refine wpList_get K Try.underlying61 zeroB rfl _ _ false rfl hmap rfl s rfl _ hr ?_)
        go_roundw
        case rel => exact ⟨k + 1, m, by omega, by go_num, by rw [he.out]; exact HI, by rw [he.out]; exact HM⟩
        case measure => simp [intOf]; omega
      · have hm : mhas m s = false := by rw [HI.out]; exact decide_eq_false hs
        have he : Hid (srcB (l.take (k + 1)) = out ++ [s]) := by unfold Hid; rw [hsn]; unfold srcStep; rw [if_neg hs]
        have HI2 : Hid (∀ x, mhas (mput m s ()) x = decide (x = waitN ∨ mem (out ++ [s]) x = true)) := fun x => by
          unfold mhas
          rw [mget_put]
          by_cases hx : x = s
          · rw [if_pos hx]; simp [hx, mem]
          · rw [if_neg hx]
            have := HI.out x
            unfold mhas at this
            have e2 : mem (out ++ [s]) x = mem out x := by unfold mem; rw [List.any_append]; simp [hx]
            rw [this, e2]
        rw [hm] at hr
        clear hs hsn hm HI
        go_wp2_with (first | (at_lookup; refine wpList_get K Try.underlying61 zeroB rfl _ _ false rfl hmap rfl s rfl _ hr ?_) | (refine wpList_put K Try.underlying61 rfl _ _ _ (.inl rfl) HM rfl s rfl () rfl ?_; intro w2 HM2 HU2; have HM3 : Mem none_ w [StrRow _ out, MapC mb Value.string setV (mput m s ())] w2 := HM2.sel [1, 0] (by decide); clear HM2 HU2 HM hmap x0) | (at_builtin; refine wpList_appS strE rfl _ _ rfl HM3 rfl s _ rfl ?hnb ?hb ?_; (case hnb => simp); (case hb => omega); intro v' w4 HM4 HU4; have HM5 := Lib.hid (HM4.sel [1, 0] (by decide)); clear HM4 HU4 HM3))
        go_roundw
        case rel => exact ⟨k + 1, _, by omega, by go_num, by rw [he.out]; exact HI2, by rw [he.out]; exact HM5.out⟩
        case measure => simp [intOf]; omega
    · have hlt' : decide ((k : Int) < (l.length : Int)) = false := decide_eq_false (by omega)
      have hltN : decide (k < l.length) = false := decide_eq_false hlt
      have e : k = l.length := by omega
      subst e
      rw [List.take_length] at HM
      have HMe := Lib.hid (HM.sel [1] (by decide))
      clear HM HI
      go_wp2_with fail
      go_ret
      exact ⟨_, rfl, HMe.out⟩
end Go.Proofs.Ytliglejbkpjamaa
