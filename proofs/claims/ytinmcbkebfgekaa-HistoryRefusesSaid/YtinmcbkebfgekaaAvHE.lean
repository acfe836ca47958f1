/- The acts that came in, as acts. -/
import Derived.Test.YtinmcbkebfgekaaAvHT
import Derived.Test.YtinmcbkebfgekaaAvE2
import Derived.Test.YtinmcbkebfgekaaRows
import Derived.WalkKit
import Derived.ProofKit
import Derived.OpenShut
import Derived.ShutString
import Derived.ChangeOld
import Derived.Below
set_option linter.all false
set_option linter.unusedVariables false
set_option linter.unusedSimpArgs false
namespace Go.Av
open Go.ChangeShapes Go.WideShapes
def tsKnown : List TypeId := [3, 3, 3, 3, 3, 9, 3, 9, 9, 3, 29, 30, 31, 34, 9, 9, 3, 3, 3, 3, 9, 3, 3, 35, 3, 4, 9, 9, 3, 9, 9, 3, 40, 40, 9, 3, 46, 9, 3, 45, 47, 48, 9, 9, 9, 3, 3, 4, 9]
theorem leavesKnown : leaves Go.Proofs.Try.prog 20 56 = some tsKnown := by kernel_rfl
section
variable {H : Type} {enc : TypeId × Value → H} {w : World} {base : Nat} {spare : Nat → Bool} {held : Bool}
theorem leaf_int {c : Value} {m : Nat} {y : DataW H × List MemPlace} (h : DataW.trod enc Go.Proofs.Try.prog w base spare held m 3 [c] = some y) : ∃ n, c = .int .i64 n := by
  obtain ⟨n, h1, _⟩ := DataW.trod_int Go.Proofs.Try.underlying3 h
  injection h1 with h1
  exact ⟨n, h1⟩
theorem leaf_str {c : Value} {m : Nat} {y : DataW H × List MemPlace} (h : DataW.trod enc Go.Proofs.Try.prog w base spare held m 9 [c] = some y) : ∃ n, c = .string n := by
  obtain ⟨n, h1, _⟩ := DataW.trod_string Go.Proofs.Try.underlying9 h
  injection h1 with h1
  exact ⟨n, h1⟩
theorem known_of {cs : List Value} (hl : cs.length = tsKnown.length) (h : ∀ (j : Nat) (u : TypeId) (c : Value), tsKnown[j]? = some u → cs[j]? = some c → c.oneCell' = true ∧ ∃ (m : Nat) (y : DataW H × List MemPlace), DataW.trod enc Go.Proofs.Try.prog w base spare held m u [c] = some y) : ∃ k : Known, cs.map AV.imm = k.row := by
  match cs, hl with
  | c0 :: c1 :: c2 :: c3 :: c4 :: c5 :: c6 :: rest, hl =>
    obtain ⟨_, _, _, h0⟩ := h 0 3 c0 rfl rfl
    obtain ⟨_, _, _, h1⟩ := h 1 3 c1 rfl rfl
    obtain ⟨_, _, _, h2⟩ := h 2 3 c2 rfl rfl
    obtain ⟨_, _, _, h3⟩ := h 3 3 c3 rfl rfl
    obtain ⟨_, _, _, h4⟩ := h 4 3 c4 rfl rfl
    obtain ⟨_, _, _, h5⟩ := h 5 9 c5 rfl rfl
    obtain ⟨_, _, _, h6⟩ := h 6 3 c6 rfl rfl
    obtain ⟨n0, rfl⟩ := leaf_int h0
    obtain ⟨n1, rfl⟩ := leaf_int h1
    obtain ⟨n2, rfl⟩ := leaf_int h2
    obtain ⟨n3, rfl⟩ := leaf_int h3
    obtain ⟨n4, rfl⟩ := leaf_int h4
    obtain ⟨n5, rfl⟩ := leaf_str h5
    obtain ⟨n6, rfl⟩ := leaf_int h6
    have hr : rest.length = 42 := by simp [tsKnown] at hl; exact hl
    exact ⟨⟨n0, n1, n2, n3, n4, n5, n6, rest, hr⟩, rfl⟩
theorem map_choose {α β : Type} {p : α → β → Prop} : ∀ l : List α, (∀ a ∈ l, ∃ b, p a b) → ∃ m : List β, l.length = m.length ∧ ∀ (i : Nat) a b, l[i]? = some a → m[i]? = some b → p a b
  | [], _ => ⟨[], rfl, fun i a b h => by simp at h⟩
  | a :: l, h => by
    obtain ⟨b, hb⟩ := h a (.head _)
    obtain ⟨m, hm, hp⟩ := map_choose l fun x hx => h x (.tail _ hx)
    refine ⟨b :: m, by simp [hm], fun i x y hx hy => ?_⟩
    cases i with
    | zero => simp at hx hy; subst hx; subst hy; exact hb
    | succ i => exact hp i x y (by simpa using hx) (by simpa using hy)
theorem acts_of {fuel : Nat} {v : Value} {x : DataW H × List MemPlace} (h : DataW.trod enc Go.Proofs.Try.prog w base spare held fuel 22 [v] = some x) : ∃ am : List Known, R (KG (allG w) w) (.sl 49 .ro (am.map Known.row)) v := by
  obtain ⟨css, hR, hc⟩ := slice_rows Go.Proofs.Try.underlying22 leavesKnown (by kernel_rfl) (by decide) h
  obtain ⟨am, hlen, ha⟩ := map_choose (p := fun (cs : List Value) (k : Known) => cs.map AV.imm = k.row) css fun cs hcs => known_of (hc cs hcs).1 (hc cs hcs).2
  refine ⟨am, ?_⟩
  rw [show (49 : Nat) = tsKnown.length from rfl, show am.map Known.row = css.map fun cs => cs.map .imm from ?_]
  · exact hR
  · refine List.ext_getElem (by simp [hlen]) fun i h1 h2 => ?_
    simp only [List.getElem_map]
    simp at h1 h2
    exact (ha i _ _ (List.getElem?_eq_getElem h2) (List.getElem?_eq_getElem h1)).symm
/-- A call that answers true, as the row's frame wants it. -/
theorem frame_of {P : Program} {f : FuncId} {args : List AV} {vs : List Value} (hc : PCall P f args (.imm (.bool true))) (hr : Rt (KG (allG w) w) args vs) : Calls P f vs.toArray w fun e w' => e = .returned (.bool true) ∧ Go.RowKit.Below w.heap.size w w' := by
  refine (hc (allG w) w vs (fun a h => h) hr).mono ?_
  rintro e w' ⟨v, o, τ, rfl, hb, _, hR⟩
  simp only [R] at hR
  exact ⟨by rw [hR.1], hb⟩
end
end Go.Av
