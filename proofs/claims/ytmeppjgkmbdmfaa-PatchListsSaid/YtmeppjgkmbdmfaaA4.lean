/- OWN TEXT: see NOTES.md. -/
import Derived.Test.YtmeppjgkmbdmfaaA3
import Derived.Lib.Index
import Derived.Lib.LastIndexLaws
import Derived.Shelf.Strings.Search3
import Derived.Shelf.Strings.LastIndexAll
import Derived.Shelf.GgClosure.StringsIndexFuncTop
set_option linter.all false
namespace Go.Av
def zeroP (k : Int) (id : Bs) : PatchS := ⟨k, id, nilS, nilS, nilS, noItem, 0, nilS, nilS⟩
/-- A patch is well-formed. -/
def FormedP (p : PatchS) : Prop :=
  (p.kind = 1 ∧ p = { zeroP 1 p.id with parent := p.parent, after := p.after, item := p.item } ∧ p.item.id = p.id ∧ p.item.parent = p.parent ∧ Proper { p.item with parent := nilS }) ∨
  (p.kind = 2 ∧ p = { zeroP 2 p.id with lang := p.lang, old := p.old, new := p.new } ∧ p.old ≠ nilS ∧ (p.lang = 1 ∨ p.lang = 2)) ∨
  (p.kind = 3 ∧ p = { zeroP 3 p.id with number := p.number } ∧ NumP p.number) ∨
  (p.kind = 4 ∧ p = { zeroP 4 p.id with parent := p.parent, after := p.after }) ∨
  (p.kind = 5 ∧ p = zeroP 5 p.id) ∨ (p.kind = 6 ∧ p = zeroP 6 p.id) ∨
  (p.kind = 7 ∧ p = { zeroP 7 p.id with item := { noItem with north := p.item.north, south := p.item.south } })
instance (p : PatchS) : Decidable (FormedP p) := by unfold FormedP; infer_instance
def textOf (k : Int) (x : Item) : Bs := if k = 1 then x.north else x.south
def withText (k : Int) (x : Item) (t : Bs) : Item := if k = 1 then { x with north := t } else { x with south := t }
def idxI (t f : Bs) : Int := Lib.index t.data.toList f.data.toList
def lastI (t f : Bs) : Int := Lib.lastIndex t.data.toList f.data.toList
def OnceP (t f : Bs) : Prop := 0 ≤ idxI t f ∧ lastI t f = idxI t f
instance (t f : Bs) : Decidable (OnceP t f) := inferInstanceAs (Decidable (_ ∧ _))
/-- The first f in t becomes g. -/
def swapT (t f g : Bs) : Bs := t.extract 0 (idxI t f).toNat ++ g ++ t.extract ((idxI t f).toNat + f.size) t.size
def putS (l xs : List Item) (q a : Bs) : List Item := l.take (placeAt l q a) ++ (xs ++ l.drop (placeAt l q a))
def cutS (l : List Item) (n k : Nat) : List Item := l.take n ++ l.drop (n + k)
def moveS (l : List Item) (p : PatchS) : List Item :=
  putS (cutS l (findS p.id l).toNat (1 + (belowS l p.id).length)) ({ itemAt l p.id with parent := p.parent } :: ((l.drop ((findS p.id l).toNat + 1)).take (belowS l p.id).length)) p.parent p.after
def BadMove (l : List Item) (p : PatchS) : Prop := ¬ HasPlace l p.parent p.after ∨ p.parent = p.id ∨ p.after = p.id ∨ (p.parent ≠ nilS ∧ underS l p.parent p.id)
instance (l : List Item) (p : PatchS) : Decidable (BadMove l p) := by unfold BadMove; infer_instance
/-- Why a patch is not possible (0: it is). -/
def applyE (l : List Item) (p : PatchS) : Int :=
  if ¬ ValidC l ∨ ¬ FormedP p then 1
  else if p.kind = 1 then (if 0 ≤ findS p.id l then 9 else if ¬ HasPlace l p.parent p.after then 14 else if 2000 ≤ l.length then 2 else 0)
  else if (itemAt l p.id).kind = 0 ∨ ((itemAt l p.id).kind = 1 ∧ p.kind ≠ 3 ∧ p.kind ≠ 4) then 11
  else if p.kind = 6 ∧ (itemAt l p.id).gone = false then 12
  else if p.kind ≠ 6 ∧ (itemAt l p.id).gone = true then 16
  else if p.kind = 2 then (if ¬ OnceP (textOf p.lang (itemAt l p.id)) p.old then 15 else if 400 < (swapT (textOf p.lang (itemAt l p.id)) p.old p.new).size then 2 else 0)
  else if p.kind = 4 then (if BadMove l p then 14 else 0)
  else if p.kind = 7 then (if 400 < p.item.north.size ∨ 400 < p.item.south.size then 2 else 0)
  else 0
/-- The item after a patch of it alone. -/
def edit (x : Item) (p : PatchS) : Item :=
  if p.kind = 2 then withText p.lang x (swapT (textOf p.lang x) p.old p.new)
  else if p.kind = 3 then { x with number := p.number }
  else if p.kind = 5 then { x with gone := true }
  else if p.kind = 6 then { x with gone := false }
  else { x with north := p.item.north, south := p.item.south }
/-- The code after a patch that is possible. -/
def applyL (l : List Item) (p : PatchS) : List Item :=
  if applyE l p ≠ 0 then []
  else if p.kind = 1 then putS l [p.item] p.parent p.after
  else if p.kind = 4 then moveS l p
  else l.set (findS p.id l).toNat (edit (itemAt l p.id) p)
/-- A patch of one item is possible. -/
def CanEdit (x : Item) (p : PatchS) : Prop :=
  (p.kind = 2 ∧ x.kind = 2 ∧ x.gone = false ∧ OnceP (textOf p.lang x) p.old ∧ (swapT (textOf p.lang x) p.old p.new).size ≤ 400) ∨
  (p.kind = 3 ∧ x.gone = false) ∨ (p.kind = 5 ∧ x.kind = 2 ∧ x.gone = false) ∨ (p.kind = 6 ∧ x.kind = 2 ∧ x.gone = true) ∨
  (p.kind = 7 ∧ x.kind = 2 ∧ x.gone = false ∧ p.item.north.size ≤ 400 ∧ p.item.south.size ≤ 400)
/-- What the three roads do. -/
def RelI (l : List Item) (p : PatchS) (d : List Item) : Prop :=
  p.kind = 1 ∧ p.id ∉ ids l ∧ l.length < 2000 ∧ HasPlace l p.parent p.after ∧ ∃ A C sq oa oc, Place l p.parent p.after A C sq oa oc ∧ d = A ++ p.item :: C
def RelM (l : List Item) (p : PatchS) (d : List Item) : Prop :=
  p.kind = 4 ∧ ∃ A x B C os sq oa ob oc, At l A x B C os sq oa ob oc ∧ x.id = p.id ∧ x.gone = false ∧ p.parent ∉ ids (x :: B) ∧ p.after ∉ ids (x :: B) ∧ HasPlace (A ++ C) p.parent p.after ∧
    ∃ A' C' sq' oa' oc', Place (A ++ C) p.parent p.after A' C' sq' oa' oc' ∧ d = A' ++ { x with parent := p.parent } :: (B ++ C')
def RelE (l : List Item) (p : PatchS) (d : List Item) : Prop :=
  p.kind ≠ 1 ∧ p.kind ≠ 4 ∧ ∃ A x R, l = A ++ x :: R ∧ x.id = p.id ∧ CanEdit x p ∧ d = A ++ edit x p :: R
def Rel (l : List Item) (p : PatchS) (d : List Item) : Prop := FormedP p ∧ (RelI l p d ∨ RelM l p d ∨ RelE l p d)
theorem FormedP.kinds {p : PatchS} (h : FormedP p) : p.kind = 1 ∨ p.kind = 2 ∨ p.kind = 3 ∨ p.kind = 4 ∨ p.kind = 5 ∨ p.kind = 6 ∨ p.kind = 7 := by
  rcases h with h | h | h | h | h | h | h <;> simp [h.1]
theorem Place.put {l A C xs : List Item} {q a : Bs} {sq : List Bs} {oa oc : List (List Bs)} (h : Place l q a A C sq oa oc) : putS l xs q a = A ++ (xs ++ C) := by
  rw [putS, h.at', h.eq, List.take_left, List.drop_left]
theorem ids_perm {a b : List Item} (h : a.Perm b) : (ids a).Perm (ids b) := h.map _
theorem At.cut {l A B C : List Item} {x : Item} {os : List (List Bs)} {sq : List Bs} {oa ob oc : List (List Bs)} (h : At l A x B C os sq oa ob oc) (hT : Tree l os) : Tree (A ++ C) (oa ++ oc) := by
  refine ⟨fun y hy => hT.proper y ?_, ?_, by simpa using h.ctx.plug (.nil _ _)⟩
  · rw [h.eq]
    simp only [List.mem_append,List.mem_cons] at hy ⊢
    grind
  · have hn := hT.nodup
    rw [h.eq] at hn
    refine List.Nodup.sublist ?_ hn
    simp only [ids_append,ids_cons]
    exact List.Sublist.append_left (List.Sublist.trans (List.sublist_append_right _ _) (List.sublist_cons_self _ _)) _
theorem itemAt_cut {A B C : List Item} {os : List (List Bs)} (hT : Tree (A ++ (B ++ C)) os) {y : Bs} (h : y ∉ ids B) : itemAt (A ++ C) y = itemAt (A ++ (B ++ C)) y := by
  have : ∀ (l : List Item), itemAt l y = (l.find? fun x => decide (x.id = y)).getD noItem := fun _ => rfl
  rw [this, this, List.find?_append, List.find?_append, List.find?_append]
  have hB : B.find? (fun x => decide (x.id = y)) = none := by
    rw [List.find?_eq_none]
    intro z hz
    have : z.id ≠ y := fun e => h (mem_ids.2 ⟨z, hz, e⟩)
    simpa using this
  rw [hB]
  simp
/-- A move's place: asked of the code, or of the code without what is moved. -/
theorem At.movable {l A B C : List Item} {x : Item} {os : List (List Bs)} {sq : List Bs} {oa ob oc : List (List Bs)} (h : At l A x B C os sq oa ob oc) (hT : Tree l os) (hl : l.length ≤ 2000) {p : PatchS} (hx : x.id = p.id) :
    ¬ BadMove l p ↔ (p.parent ∉ ids (x :: B) ∧ p.after ∉ ids (x :: B) ∧ HasPlace (A ++ C) p.parent p.after) := by
  have hTC := h.cut hT
  have e : l = A ++ ((x :: B) ++ C) := by rw [h.eq]; simp
  have hT' := hT
  rw [e] at hT'
  have hu := h.under hT hl p.parent
  rw [hx] at hu
  unfold BadMove
  constructor
  · intro hn
    simp only [not_or,zl7,not_and] at hn
    obtain ⟨h1, h2, h3, h4⟩ := hn
    have hq : p.parent ∉ ids (x :: B) := by
      rw [ids_cons, List.mem_cons, not_or, hx]
      refine ⟨h2, fun hm => ?_⟩
      have hne : p.parent ≠ nilS := hT.ne (by rw [h.eq]; simp [hm])
      exact h4 hne (hu.2 hm)
    have ha : p.after ∉ ids (x :: B) := by
      rw [ids_cons, List.mem_cons, not_or, hx]
      refine ⟨h3, fun hm => ?_⟩
      obtain ⟨y, hy, hya⟩ := mem_ids.1 hm
      have hne : p.after ≠ nilS := hT.ne (by rw [h.eq]; simp [hm])
      have h5 := (h1.2.resolve_left hne).2
      rw [← hya, hT.item (by rw [h.eq]; simp [hy])] at h5
      rcases h.blk.par y hy with k | k
      · exact hq (by rw [← h5, k]; simp)
      · exact hq (by rw [← h5, ids_cons]; exact .tail _ k)
    refine ⟨hq, ha, ?_⟩
    unfold HasPlace at h1 ⊢
    rw [itemAt_cut hT' hq, itemAt_cut hT' ha, ← e]
    exact h1
  · rintro ⟨hq, ha, hp⟩
    simp only [not_or,zl7,not_and]
    unfold HasPlace at hp ⊢
    rw [itemAt_cut hT' hq, itemAt_cut hT' ha, ← e] at hp
    rw [ids_cons, List.mem_cons, not_or, hx] at hq ha
    exact ⟨hp, hq.1, ha.1, fun _ hm => hq.2 (hu.1 hm)⟩
theorem set_at {A R : List Item} {x y : Item} : (A ++ x :: R).set A.length y = A ++ y :: R := by
  rw [List.set_append_right _ _ (Nat.le_refl _)]
  simp
theorem edit_can {l : List Item} {os : List (List Bs)} (hT : Tree l os) {p : PatchS} (hf : FormedP p) (h1 : p.kind ≠ 1) (h4 : p.kind ≠ 4) (hv : ValidC l) : applyE l p = 0 ↔ p.id ∈ ids l ∧ CanEdit (itemAt l p.id) p := by
  have hk := itemAt_kind hT (id := p.id)
  unfold applyE CanEdit
  rw [if_neg (by simp [hv, hf]), if_neg h1]
  have hk2 : p.id ∈ ids l → (itemAt l p.id).kind = 1 ∨ (itemAt l p.id).kind = 2 := by
    intro hm
    obtain ⟨x, hx, e⟩ := mem_ids.1 hm
    rw [← e, hT.item hx]
    exact hT.kind hx
  generalize itemAt l p.id = y at *
  have hkinds := hf.kinds
  constructor
  · intro h
    split at h
    · simp at h
    rename_i c1
    split at h
    · simp at h
    rename_i c2
    split at h
    · simp at h
    rename_i c3
    have hm : p.id ∈ ids l := hk.1 (fun e => c1 (.inl e))
    refine ⟨hm, ?_⟩
    have := hk2 hm
    rcases hkinds with k | k | k | k | k | k | k <;> (first | exact absurd k h1 | exact absurd k h4 | skip) <;> cases hg : y.gone <;> simp [k, hg] at h c1 c2 c3 ⊢ <;> grind
  · rintro ⟨hm, hc⟩
    have := hk2 hm
    have := hk.2 hm
    rcases hc with ⟨c1, c2, c3, c4, c5⟩ | ⟨c1, c2⟩ | ⟨c1, c2, c3⟩ | ⟨c1, c2, c3⟩ | ⟨c1, c2, c3, c4, c5⟩
    · simp [*]
    · simp [*]
    · simp [*]
    · simp [*]
    · simp [*]
theorem apply_rel {l : List Item} {p : PatchS} {d : List Item} (hv : ValidC l) : Rel l p d ↔ applyE l p = 0 ∧ applyL l p = d := by
  obtain ⟨os, hT⟩ := hv.tree
  have hl := hv.2
  by_cases hf : ¬ FormedP p
  · constructor
    · rintro ⟨h, _⟩; exact absurd h hf
    · rintro ⟨h, _⟩
      rw [applyE, if_pos (.inr hf)] at h
      cases h
  replace hf := Classical.not_not.1 hf
  by_cases h1 : p.kind = 1
  · have hm := findS_mem (l := l) (id := p.id)
    have e0 : applyE l p = 0 ↔ p.id ∉ ids l ∧ HasPlace l p.parent p.after ∧ l.length < 2000 := by
      unfold applyE
      rw [if_neg (by simp [hv, hf]), if_pos h1]
      constructor
      · intro h
        split at h
        · cases h
        · split at h
          · cases h
          · split at h
            · cases h
            · refine ⟨?_, ?_, by omega⟩
              · rwa [← hm]
              · simpa using ‹¬ ¬ HasPlace l p.parent p.after›
      · rintro ⟨k1, k2, k3⟩
        rw [if_neg (by rwa [hm]), if_neg (by simpa using k2), if_neg (by omega)]
    constructor
    · rintro ⟨_, h | h | h⟩
      · obtain ⟨_, k1, k2, k3, A, C, sq, oa, oc, k4, rfl⟩ := h
        have he := e0.2 ⟨k1, k3, k2⟩
        refine ⟨he, ?_⟩
        rw [applyL, if_neg (by simp [he]), if_pos h1, k4.put]
        rfl
      · have := h.1; omega
      · exact absurd h1 h.1
    · rintro ⟨he, rfl⟩
      obtain ⟨k1, k2, k3⟩ := e0.1 he
      obtain ⟨A, C, sq, oa, oc, k4⟩ := hT.place hl k2
      refine ⟨hf, .inl ⟨h1, k1, k3, k2, A, C, sq, oa, oc, k4, ?_⟩⟩
      rw [applyL, if_neg (by simp [he]), if_pos h1, k4.put]
      rfl
  by_cases h4 : p.kind = 4
  · have hk := itemAt_kind hT (id := p.id)
    have e0 : applyE l p = 0 ↔ p.id ∈ ids l ∧ (itemAt l p.id).gone = false ∧ ¬ BadMove l p := by
      unfold applyE
      rw [if_neg (by simp [hv, hf]), if_neg h1, ← hk]
      simp only [h4]
      by_cases c1 : (itemAt l p.id).kind = 0
      · simp [c1]
      · by_cases c2 : (itemAt l p.id).gone = true
        · simp [c1, c2]
        · by_cases c3 : BadMove l p <;> simp [c1, c2, c3]
    have key : ∀ {A x B C os' sq oa ob oc}, At l A x B C os' sq oa ob oc → x.id = p.id → applyL l p = (if applyE l p ≠ 0 then [] else putS (A ++ C) ({ x with parent := p.parent } :: B) p.parent p.after) := by
      intro A x B C os' sq oa ob oc hat hx
      have hos : os' = os := by
        have hT' : Tree l os' := ⟨hT.proper, hT.nodup, by
          have := hat.ctx.plug (Opens.cons rfl hat.blk hat.leaf (.nil _ _))
          rw [hat.eq, hat.os]
          simpa using this⟩
        have := hT'.walk
        rw [hT.walk] at this
        injection this with this
        exact this.symm
      subst hos
      have hA := (hT.pos hat.eq).1
      have hb := hat.below hT hl
      rw [applyL]
      by_cases hne : applyE l p ≠ 0
      · rw [if_pos hne, if_pos hne]
      rw [if_neg hne, if_neg hne, if_neg h1, if_pos h4, moveS, cutS]
      have f1 : findS p.id l = A.length := by rw [← hx, hat.eq]; exact findS_at hA
      have f2 : itemAt l p.id = x := by rw [← hx, hat.eq]; exact itemAt_at hA
      rw [f1, f2, ← hx, hb]
      have e1 : l.take A.length = A := by rw [hat.eq]; exact List.take_left ..
      have e2 : l.drop (A.length + (1 + (ids B).length)) = C := by
        rw [hat.eq, ← List.drop_drop, List.drop_left, Nat.add_comm 1, List.drop_succ_cons]
        simp [ids]
      have e3 : (l.drop (A.length + 1)).take (ids B).length = B := by
        rw [hat.eq, ← List.drop_drop, List.drop_left, List.drop_succ_cons, List.drop_zero]
        simp [ids]
      simp only [zr0,e1,e2,e3]
    constructor
    · rintro ⟨_, h | h | h⟩
      · exact absurd h.1 h1
      · obtain ⟨_, A, x, B, C, os', sq, oa, ob, oc, hat, hx, hg, k1, k2, k3, A', C', sq', oa', oc', k4, rfl⟩ := h
        have hos : os' = os := by
          have hT' : Tree l os' := ⟨hT.proper, hT.nodup, by
            have := hat.ctx.plug (Opens.cons rfl hat.blk hat.leaf (.nil _ _))
            rw [hat.eq, hat.os]
            simpa using this⟩
          have := hT'.walk
          rw [hT.walk] at this
          injection this with this
          exact this.symm
        subst hos
        have he : applyE l p = 0 := by
          rw [e0]
          refine ⟨?_, ?_, (hat.movable hT hl hx).2 ⟨k1, k2, k3⟩⟩
          · rw [← hx, hat.eq]; simp
          · rw [← hx, hT.item (by rw [hat.eq]; simp), hg]
        refine ⟨he, ?_⟩
        rw [key hat hx, if_neg (by simp [he]), k4.put]
        simp
      · exact absurd h4 h.2.1
    · rintro ⟨he, rfl⟩
      obtain ⟨k1, k2, k3⟩ := e0.1 he
      obtain ⟨A, x, R, e, hx, hA⟩ := mem_split k1
      obtain ⟨B, C, sq, oa, ob, oc, rfl, hat⟩ := hT.at e
      obtain ⟨q1, q2, q3⟩ := (hat.movable hT hl hx).1 k3
      have hTC := hat.cut hT
      obtain ⟨A', C', sq', oa', oc', k4⟩ := hTC.place (by rw [hat.eq] at hl; simp at hl ⊢; omega) q3
      refine ⟨hf, .inr (.inl ⟨h4, A, x, B, C, os, sq, oa, ob, oc, hat, hx, ?_, q1, q2, q3, A', C', sq', oa', oc', k4, ?_⟩)⟩
      · rw [← hx, hT.item (by rw [e]; simp)] at k2
        exact k2
      · rw [key hat hx, if_neg (by simp [he]), k4.put]
        simp
  · have e0 := edit_can hT hf h1 h4 hv
    have key : ∀ {A x R}, l = A ++ x :: R → x.id = p.id → applyE l p = 0 → applyL l p = A ++ edit x p :: R := by
      intro A x R e hx he
      have hA := (hT.pos e).1
      rw [applyL, if_neg (by simp [he]), if_neg h1, if_neg h4, ← hx]
      have f1 : findS x.id l = A.length := by rw [e]; exact findS_at hA
      have f2 : itemAt l x.id = x := by rw [e]; exact itemAt_at hA
      rw [f1, f2, e]
      exact set_at
    constructor
    · rintro ⟨_, h | h | h⟩
      · exact absurd h.1 h1
      · exact absurd h.1 h4
      · obtain ⟨_, _, A, x, R, e, hx, hc, rfl⟩ := h
        have he : applyE l p = 0 := by
          rw [e0]
          refine ⟨by rw [← hx, e]; simp, ?_⟩
          rw [← hx, hT.item (by rw [e]; simp)]
          exact hc
        exact ⟨he, key e hx he⟩
    · rintro ⟨he, rfl⟩
      obtain ⟨k1, k2⟩ := e0.1 he
      obtain ⟨A, x, R, e, hx, hA⟩ := mem_split k1
      rw [← hx, hT.item (by rw [e]; simp)] at k2
      exact ⟨hf, .inr (.inr ⟨h1, h4, A, x, R, e, hx, k2, key e hx he⟩)⟩
end Go.Av

namespace Go.Av
variable {P : Program} {T : List Nat}
theorem isName_con (L : Lay P T) (s : ByteArray) (hs : s.size ≤ 1048576) : Con P T 126 [.imm (.string s)] (.imm (.bool (decide (NameP s)))) := by
  refine Con_of nul L.t_code_isName [] [] (by exact Nat.le_of_ble_eq_true rfl) ?_
  show wCode _ b_code_isName _ _ _ _
  simp -implicitDefEqProofs only [b_code_isName,za0,za1,za2,za3,za4,eff,AV.ptrOf,AV.tokOf,za5,za6,AV.weaks,AV.weak1,za7,za8,za9,zb0,zb1,zb2,zb3,zb4,zb5,zb6,zb7,zb8,zb9,zc0,zc1,zc2,zc3,zc4,zc5,zc6,zc7,zc8,zc9,zd0,zd1,zd2,zd3,zd4,zd5,zd6,zd7,zd8,zd9,ze0,ze1,ze2,ze3,ze4,ze5,ze6,ze7,ze8,ze9,zf0,zf1,zf2,zf3,zf4,zf5,zf6,zf7,zf8,zf9,zg0,zg1,zg2,zg3,zg4,zg5,zg6,zg7,zg8,zg9,zh0,zh1,zh2,zh3,zh4,zh5,zh6,zh7,zh8,zh9,zi0,zi1,zi2,zi3,zi4,zi5,zi6,wSnil,zi7,zi8,zi9,zj0,zj1,zj2,zj3,zj4,zj5,zj6,zj7,zj8,AV.flatB,AV.flatBs,zj9,zk0,zk1,zk2,zk3,zk4,zk5,zk6,act,AV.cells,AV.mk,AV.asSl,AV.asInt,AV.vslOf,wIdx,zk7,zk8,zk9,zl0,zl1,zl2,zl3,st0,env0,zl4,zl5,zl6,Nat.reduceAdd,Nat.reduceEqDiff,Nat.reduceLeDiff,↓reduceIte,AV.ofV,unV,← decide_not,zl7,zl8,zl9,zm0,zm1,zm2,zm3,zm4,zm5,zm6,zm7,zm8,zm9,zn0,zn1,zn2,zn3,zn4,zn5,zn6,zn7,reduceCtorEq,rowsOf,pureCells,AV.weak,AV.pureB,AV.pureBs,zn8,zn9,zo0,zo1,zo2,Nat.reduceBEq,zo3,zo4,zo5,zo6,zo7,zo8,zo9,zp0,zp1]
  refine AW.loop (fun k st => st.env 0 = .imm (.string s) ∧ st.env 8 = .imm (.int .i64 s.size) ∧ ∃ i : Nat, i + k = s.size ∧ st.env 9 = .imm (.int .i64 i) ∧ (∀ j, j < i → Word (byteAt s j)) ∧ (0 < i → Letter (byteAt s 0))) s.size ?_ ?_
  · exact ⟨rfl, rfl, 0, by simp, rfl, by simp, by simp⟩
  · rintro k ⟨e, g, v, tg, tp, x⟩ ⟨h0, h8, i, hi, h9, hw, hf⟩
    simp only at h0 h8 h9
    have good : (Letter (byteAt s i) ∨ (Word (byteAt s i) ∧ 0 < i)) → i < s.size → ∃ n', n' < k ∧ ∃ i' : Nat, i' + n' = s.size ∧ AV.imm (.int .i64 (IntKind.i64.wrap ((i : Int) + 1))) = .imm (.int .i64 i') ∧ (∀ j, j < i' → Word (byteAt s j)) ∧ (0 < i' → Letter (byteAt s 0)) := by
      intro h hlt
      refine ⟨k - 1, by omega, i + 1, by omega, ?_, ?_, fun _ => ?_⟩
      · rw [IntWalk.i64_in _ (by omega)]; rfl
      · intro j hj
        rcases Nat.lt_succ_iff_lt_or_eq.1 hj with h' | rfl
        · exact hw j h'
        · exact h.elim .inl (·.1)
      · rcases Nat.eq_zero_or_pos i with rfl | h0
        · rcases h with h | h
          · exact h
          · omega
        · exact hf h0
    have bad : ¬ Word (byteAt s i) → i < s.size → false = decide (NameP s) := fun h hlt => (decide_eq_false fun h' => h (h'.1 i hlt)).symm
    have bad0 : i = 0 → ¬ Letter (byteAt s i) → false = decide (NameP s) := fun h0 h => (decide_eq_false fun h' => h (by rw [h0]; exact h'.2.2.2)).symm
    have hb : ((s.data.toList.getD i 0).toNat : Int) = byteAt s i := rfl
    simp -implicitDefEqProofs only [l_code_isName_0,h0,h8,h9,za0,za1,za2,za3,za4,eff,AV.ptrOf,AV.tokOf,za5,za6,AV.weaks,AV.weak1,za7,za8,za9,zb0,zb1,zb2,zb3,zb4,zb5,zb6,zb7,zb8,zb9,zc0,zc1,zc2,zc3,zc4,zc5,zc6,zc7,zc8,zc9,zd0,zd1,zd2,zd3,zd4,zd5,zd6,zd7,zd8,zd9,ze0,ze1,ze2,ze3,ze4,ze5,ze6,ze7,ze8,ze9,zf0,zf1,zf2,zf3,zf4,zf5,zf6,zf7,zf8,zf9,zg0,zg1,zg2,zg3,zg4,zg5,zg6,zg7,zg8,zg9,zh0,zh1,zh2,zh3,zh4,zh5,zh6,zh7,zh8,zh9,zi0,zi1,zi2,zi3,zi4,zi5,zi6,wSnil,zi7,zi8,zi9,zj0,zj1,zj2,zj3,zj4,zj5,zj6,zj7,zj8,AV.flatB,AV.flatBs,zj9,zk0,zk1,zk2,zk3,zk4,zk5,zk6,act,AV.cells,AV.mk,AV.asSl,AV.asInt,AV.vslOf,wIdx,zk7,zk8,zk9,zl0,zl1,zl2,zl3,st0,env0,zl4,zl5,zl6,Nat.reduceAdd,Nat.reduceEqDiff,Nat.reduceLeDiff,↓reduceIte,AV.ofV,unV,← decide_not,zl7,zl8,zl9,zm0,zm1,zm2,zm3,zm4,zm5,zm6,zm7,zm8,zm9,zn0,zn1,zn2,zn3,zn4,zn5,zn6,zn7,reduceCtorEq,rowsOf,pureCells,AV.weak,AV.pureB,AV.pureBs,zn8,zn9,zo0,zo1,zo2,Nat.reduceBEq,zo3,zo4,zo5,zo6,zo7,zo8,zo9,zp0,zp1,zr0,hb]
    refine ⟨fun hlt => ⟨⟨by omega, by omega⟩, ?_⟩, fun hge => ?_⟩
    · refine wOps_cutL 14 [(28, .imm (.bool (decide (Letter (byteAt s i))))), (0, .imm (.string s)), (8, .imm (.int .i64 s.size)), (9, .imm (.int .i64 i)), (3, .imm (.int .i64 i)), (4, .imm (.int .u8 (byteAt s i)))] ?_ ?_
      · simp -implicitDefEqProofs only [r_code_isName_0,Envs,h0,h8,h9,za0,za1,za2,za3,za4,eff,AV.ptrOf,AV.tokOf,za5,za6,AV.weaks,AV.weak1,za7,za8,za9,zb0,zb1,zb2,zb3,zb4,zb5,zb6,zb7,zb8,zb9,zc0,zc1,zc2,zc3,zc4,zc5,zc6,zc7,zc8,zc9,zd0,zd1,zd2,zd3,zd4,zd5,zd6,zd7,zd8,zd9,ze0,ze1,ze2,ze3,ze4,ze5,ze6,ze7,ze8,ze9,zf0,zf1,zf2,zf3,zf4,zf5,zf6,zf7,zf8,zf9,zg0,zg1,zg2,zg3,zg4,zg5,zg6,zg7,zg8,zg9,zh0,zh1,zh2,zh3,zh4,zh5,zh6,zh7,zh8,zh9,zi0,zi1,zi2,zi3,zi4,zi5,zi6,wSnil,zi7,zi8,zi9,zj0,zj1,zj2,zj3,zj4,zj5,zj6,zj7,zj8,AV.flatB,AV.flatBs,zj9,zk0,zk1,zk2,zk3,zk4,zk5,zk6,act,AV.cells,AV.mk,AV.asSl,AV.asInt,AV.vslOf,wIdx,zk7,zk8,zk9,zl0,zl1,zl2,zl3,st0,env0,zl4,zl5,zl6,Nat.reduceAdd,Nat.reduceEqDiff,Nat.reduceLeDiff,↓reduceIte,AV.ofV,unV,← decide_not,zl7,zl8,zl9,zm0,zm1,zm2,zm3,zm4,zm5,zm6,zm7,zm8,zm9,zn0,zn1,zn2,zn3,zn4,zn5,zn6,zn7,reduceCtorEq,rowsOf,pureCells,AV.weak,AV.pureB,AV.pureBs,zn8,zn9,zo0,zo1,zo2,Nat.reduceBEq,zo3,zo4,zo5,zo6,zo7,zo8,zo9,zp0,zp1,zr0]
        repeat' (first | apply And.intro | intro _)
        all_goals first | omega | exact b_d (by simp only [Letter]; omega) | exact b_t (by simp only [Letter]; omega) | exact b_f (by simp only [Letter]; omega)
      rintro e' ⟨k28, k0, k8, k9, k3, k4, -⟩
      refine wOps_cutL 10 [(38, .imm (.bool (decide (Digit (byteAt s i) ∨ byteAt s i = 95)))), (28, .imm (.bool (decide (Letter (byteAt s i))))), (0, .imm (.string s)), (8, .imm (.int .i64 s.size)), (9, .imm (.int .i64 i)), (3, .imm (.int .i64 i)), (4, .imm (.int .u8 (byteAt s i)))] ?_ ?_
      · simp -implicitDefEqProofs only [r_code_isName_0,Envs,k28,k0,k8,k9,k3,k4,za0,za1,za2,za3,za4,eff,AV.ptrOf,AV.tokOf,za5,za6,AV.weaks,AV.weak1,za7,za8,za9,zb0,zb1,zb2,zb3,zb4,zb5,zb6,zb7,zb8,zb9,zc0,zc1,zc2,zc3,zc4,zc5,zc6,zc7,zc8,zc9,zd0,zd1,zd2,zd3,zd4,zd5,zd6,zd7,zd8,zd9,ze0,ze1,ze2,ze3,ze4,ze5,ze6,ze7,ze8,ze9,zf0,zf1,zf2,zf3,zf4,zf5,zf6,zf7,zf8,zf9,zg0,zg1,zg2,zg3,zg4,zg5,zg6,zg7,zg8,zg9,zh0,zh1,zh2,zh3,zh4,zh5,zh6,zh7,zh8,zh9,zi0,zi1,zi2,zi3,zi4,zi5,zi6,wSnil,zi7,zi8,zi9,zj0,zj1,zj2,zj3,zj4,zj5,zj6,zj7,zj8,AV.flatB,AV.flatBs,zj9,zk0,zk1,zk2,zk3,zk4,zk5,zk6,act,AV.cells,AV.mk,AV.asSl,AV.asInt,AV.vslOf,wIdx,zk7,zk8,zk9,zl0,zl1,zl2,zl3,st0,env0,zl4,zl5,zl6,Nat.reduceAdd,Nat.reduceEqDiff,Nat.reduceLeDiff,↓reduceIte,AV.ofV,unV,← decide_not,zl7,zl8,zl9,zm0,zm1,zm2,zm3,zm4,zm5,zm6,zm7,zm8,zm9,zn0,zn1,zn2,zn3,zn4,zn5,zn6,zn7,reduceCtorEq,rowsOf,pureCells,AV.weak,AV.pureB,AV.pureBs,zn8,zn9,zo0,zo1,zo2,Nat.reduceBEq,zo3,zo4,zo5,zo6,zo7,zo8,zo9,zp0,zp1]
        repeat' (first | apply And.intro | intro _)
        all_goals first | omega | exact b_d (by simp only [Digit]; omega) | exact b_t (by simp only [Digit]; omega) | exact b_f (by simp only [Digit]; omega)
      rintro e'' ⟨q38, q28, q0, q8, q9, q3, q4, -⟩
      simp -implicitDefEqProofs only [r_code_isName_0,q38,q28,q0,q8,q9,q3,q4,za0,za1,za2,za3,za4,eff,AV.ptrOf,AV.tokOf,za5,za6,AV.weaks,AV.weak1,za7,za8,za9,zb0,zb1,zb2,zb3,zb4,zb5,zb6,zb7,zb8,zb9,zc0,zc1,zc2,zc3,zc4,zc5,zc6,zc7,zc8,zc9,zd0,zd1,zd2,zd3,zd4,zd5,zd6,zd7,zd8,zd9,ze0,ze1,ze2,ze3,ze4,ze5,ze6,ze7,ze8,ze9,zf0,zf1,zf2,zf3,zf4,zf5,zf6,zf7,zf8,zf9,zg0,zg1,zg2,zg3,zg4,zg5,zg6,zg7,zg8,zg9,zh0,zh1,zh2,zh3,zh4,zh5,zh6,zh7,zh8,zh9,zi0,zi1,zi2,zi3,zi4,zi5,zi6,wSnil,zi7,zi8,zi9,zj0,zj1,zj2,zj3,zj4,zj5,zj6,zj7,zj8,AV.flatB,AV.flatBs,zj9,zk0,zk1,zk2,zk3,zk4,zk5,zk6,act,AV.cells,AV.mk,AV.asSl,AV.asInt,AV.vslOf,wIdx,zk7,zk8,zk9,zl0,zl1,zl2,zl3,st0,env0,zl4,zl5,zl6,Nat.reduceAdd,Nat.reduceEqDiff,Nat.reduceLeDiff,↓reduceIte,AV.ofV,unV,← decide_not,zl7,zl8,zl9,zm0,zm1,zm2,zm3,zm4,zm5,zm6,zm7,zm8,zm9,zn0,zn1,zn2,zn3,zn4,zn5,zn6,zn7,reduceCtorEq,rowsOf,pureCells,AV.weak,AV.pureB,AV.pureBs,zn8,zn9,zo0,zo1,zo2,Nat.reduceBEq,zo3,zo4,zo5,zo6,zo7,zo8,zo9,zp0,zp1]
      simp -implicitDefEqProofs only [c_code_isName,zp2,zp3,zp4,zp5,zp6,zp7,zp8,zp9,zq0,zq1,zl4,Nat.reduceEqDiff,↓reduceIte,zm0]
      repeat' (first | apply And.intro | intro _)
      all_goals first
        | omega
        | exact bad (by simp only [Word]; grind) (by omega)
        | exact bad0 (by omega) (by assumption)
        | exact good (by simp only [Word]; grind) (by omega)
    · simp -implicitDefEqProofs only [c_code_isName,h0,h8,h9,za0,za1,za2,za3,za4,eff,AV.ptrOf,AV.tokOf,za5,za6,AV.weaks,AV.weak1,za7,za8,za9,zb0,zb1,zb2,zb3,zb4,zb5,zb6,zb7,zb8,zb9,zc0,zc1,zc2,zc3,zc4,zc5,zc6,zc7,zc8,zc9,zd0,zd1,zd2,zd3,zd4,zd5,zd6,zd7,zd8,zd9,ze0,ze1,ze2,ze3,ze4,ze5,ze6,ze7,ze8,ze9,zf0,zf1,zf2,zf3,zf4,zf5,zf6,zf7,zf8,zf9,zg0,zg1,zg2,zg3,zg4,zg5,zg6,zg7,zg8,zg9,zh0,zh1,zh2,zh3,zh4,zh5,zh6,zh7,zh8,zh9,zi0,zi1,zi2,zi3,zi4,zi5,zi6,wSnil,zi7,zi8,zi9,zj0,zj1,zj2,zj3,zj4,zj5,zj6,zj7,zj8,AV.flatB,AV.flatBs,zj9,zk0,zk1,zk2,zk3,zk4,zk5,zk6,act,AV.cells,AV.mk,AV.asSl,AV.asInt,AV.vslOf,wIdx,zk7,zk8,zk9,zl0,zl1,zl2,zl3,st0,env0,zl4,zl5,zl6,Nat.reduceAdd,Nat.reduceEqDiff,Nat.reduceLeDiff,↓reduceIte,AV.ofV,unV,← decide_not,zl7,zl8,zl9,zm0,zm1,zm2,zm3,zm4,zm5,zm6,zm7,zm8,zm9,zn0,zn1,zn2,zn3,zn4,zn5,zn6,zn7,reduceCtorEq,rowsOf,pureCells,AV.weak,AV.pureB,AV.pureBs,zn8,zn9,zo0,zo1,zo2,Nat.reduceBEq,zo3,zo4,zo5,zo6,zo7,zo8,zo9,zp0,zp1,zp2,zp3,zp4,zp5,zp6,zp7,zp8,zp9,zq0,zq1]
      have hall : ∀ j, j < s.size → Word (byteAt s j) := fun j hj => hw j (by omega)
      refine ⟨fun h1 => ?_, fun h1 => ?_⟩
      · exact decide_eq_decide.2 ⟨fun h => ⟨hall, by have : s.size ≠ 0 := (fun e => h1 (by cases s with | mk d => simp [ByteArray.size] at e; simp [e])); omega, by omega, hf (by have : s.size ≠ 0 := (fun e => h1 (by cases s with | mk d => simp [ByteArray.size] at e; simp [e])); omega)⟩, fun h => by have := h.2.2.1; omega⟩
      · exact (decide_eq_false fun h => by have := h.2.1; rw [h1] at this; simp [ByteArray.size] at this).symm
end Go.Av

namespace Go.Av
open Go.Shelf Go.RowKit Go.Proofs
variable {P : Program} {T : List Nat}
def runeOk (r : Nat) : Bool := decide ((48 ≤ r ∧ r ≤ 57) ∨ (97 ≤ r ∧ r ≤ 122))
/-- The program has the library's searches. -/
structure StrLib (P : Program) (T : List Nat) : Prop where
  index : ∃ ρ : Ren, Lays.n143 P ρ ∧ (∀ n, T[110]? = some n → n = ρ.f 143) ∧ P.globals.findIdx? (·.name == "internal/bytealg.MaxLen") = some (ρ.g 1)
  last : ∃ ρ : Ren, Lays.n148 P ρ ∧ ∀ n, T[111]? = some n → n = ρ.f 148
  cont : ∃ ρ : Ren, LaysGw.n17 P ρ ∧ (∀ n, T[124]? = some n → n = ρ.f 17) ∧ (∀ args w, (callFunc (T.getD 125 0) args).run P w = .ok (.enter (T.getD 125 0) args) w) ∧ ∀ w, PredAt P (T.getD 125 0) #[] encR (fun r => !runeOk r) w
theorem PCall_calls {f : FuncId} {xs : List AV} {vs : List Value} {u : Value} (hx : ∀ k us, Rt k xs us → us = vs) (hu : u.oneCell' = true) (h : ∀ w, Ground P w → Calls P f vs.toArray w fun e w' => e = .returned u ∧ Below w.heap.size w w') : PCall P f xs (.imm u) := by
  intro G w us hG hgr hus
  rw [hx _ _ hus]
  refine (h w hgr).mono ?_
  rintro e w' ⟨rfl, hb⟩
  exact ⟨u, fun _ => .free, fun _ => 0, rfl, hb, fun b _ h => absurd rfl h, by simp only [R]; exact ⟨trivial, hu⟩⟩
theorem Rt_imms {k : K} : ∀ {vs us : List Value}, Rt k (vs.map .imm) us → us = vs
  | [], us, h => by simpa [Rt] using h
  | v :: vs, us, h => by
    simp only [zn5,Rt,R] at h
    obtain ⟨u, r, rfl, ⟨rfl, _⟩, hr⟩ := h
    rw [Rt_imms hr]
theorem index_con (V : StrLib P T) (s t : ByteArray) (hs : s.size ≤ 1048576) : Con P T 110 [.imm (.string s), .imm (.string t)] (.imm (.int .i64 (idxI s t))) := by
  obtain ⟨ρ, hL, hn, hg⟩ := V.index
  intro n hT
  obtain rfl := hn n hT
  refine PCall_calls (vs := [.string s, .string t]) (fun k us h => Rt_imms (vs := [.string s, .string t]) h) rfl fun w hgr => ?_
  obtain ⟨m, hm⟩ := hgr _ hg
  refine (Any.strings_Index hL s t m w (by omega) hm).mono ?_
  rintro e w' ⟨rfl, rfl⟩
  exact ⟨rfl, Below.refl _ _⟩
theorem last_con (V : StrLib P T) (s t : ByteArray) (hs : s.size ≤ 1048576) : Con P T 111 [.imm (.string s), .imm (.string t)] (.imm (.int .i64 (lastI s t))) := by
  obtain ⟨ρ, hL, hn⟩ := V.last
  intro n hT
  obtain rfl := hn n hT
  refine PCall_calls (vs := [.string s, .string t]) (fun k us h => Rt_imms (vs := [.string s, .string t]) h) rfl fun w hgr => ?_
  refine (Any.strings_LastIndex hL s t (by omega) w).mono ?_
  rintro e w' ⟨rfl, rfl⟩
  exact ⟨rfl, Below.refl _ _⟩
theorem decode_low (s : ByteArray) (i : Nat) : ((s.get! i).toNat < 128 ∧ Utf8.decode s i = ((s.get! i).toNat, 1)) ∨ (128 ≤ (s.get! i).toNat ∧ 128 ≤ (Utf8.decode s i).1) := by
  unfold Utf8.decode
  simp only [Nat.add_zero]
  by_cases h : (s.get! i).toNat < 0x80
  · exact .inl ⟨h, by rw [if_pos h]⟩
  · right
    refine ⟨by omega, ?_⟩
    rw [if_neg h]
    unfold Utf8.runeError
    repeat' split
    all_goals simp only [Bool.and_eq_true,zm3] at *
    all_goals omega
theorem get_at (s : ByteArray) (i : Nat) : ((s.get! i).toNat : Int) = byteAt s i := by
  unfold byteAt
  cases s with
  | mk d =>
    simp only [ByteArray.get!, List.getD_eq_getElem?_getD, Array.getElem?_toList]
    rw [getElem!_def]
    cases d[i]? <;> rfl
theorem low_rune (s : ByteArray) (i : Nat) : runeOk (Utf8.decode s i).1 = true ↔ LowDig (byteAt s i) := by
  have := get_at s i
  unfold runeOk LowDig
  rw [decide_eq_true_eq]
  rcases decode_low s i with ⟨h1, h2⟩ | ⟨h1, h2⟩
  · rw [h2]
    simp only
    omega
  · omega
theorem idxFunc_low (s : ByteArray) : ∀ (f pos : Nat), s.size ≤ pos + f → ((0 ≤ Lib.idxFuncFrom (fun r => !runeOk r) true s f pos) ↔ ¬ ∀ i, pos ≤ i → i < s.size → LowDig (byteAt s i))
  | 0, pos, h => by
    simp only [Lib.idxFuncFrom]
    constructor
    · intro h; omega
    · intro h'; exact absurd (fun i h1 h2 => by omega) h'
  | f + 1, pos, h => by
    rw [Lib.idxFuncFrom]
    by_cases hp : pos < s.size
    · rw [if_pos hp]
      have hl := low_rune s pos
      by_cases hr : runeOk (Utf8.decode s pos).1 = true
      · rw [if_neg (by simp [hr])]
        have hb := hl.1 hr
        have hw : (Utf8.decode s pos).2 = 1 := by
          have := get_at s pos
          rcases decode_low s pos with ⟨_, h2⟩ | ⟨h1, h2⟩
          · rw [h2]
          · unfold LowDig at hb; omega
        rw [hw, idxFunc_low s f (pos + 1) (by omega)]
        constructor
        · intro h1 h2
          exact h1 fun i hi => h2 i (by omega)
        · intro h1 h2
          refine h1 fun i hi hlt => ?_
          rcases Nat.eq_or_lt_of_le hi with rfl | hi
          · exact hb
          · exact h2 i hi hlt
      · rw [if_pos (by simp at hr; simp [hr])]
        constructor
        · intro _ h2
          exact hr (hl.2 (h2 pos (Nat.le_refl _) hp))
        · intro _; omega
    · rw [if_neg hp]
      constructor
      · intro h; omega
      · intro h'; exact absurd (fun i h1 h2 => by omega) h'
theorem contains_con (V : StrLib P T) (s : ByteArray) : Con P T 124 [.imm (.string s), .fv (T.getD 125 0) [] []] (.imm (.bool (decide (¬ ∀ i, i < s.size → LowDig (byteAt s i))))) := by
  obtain ⟨ρ, hL, hn, he, hp⟩ := V.cont
  intro n hT
  obtain rfl := hn n hT
  refine PCall_calls (vs := [.string s, .func (.func (T.getD 125 0)) #[] #[]]) (fun k us h => ?_) rfl fun w hgr => ?_
  · simp only [Rt,R] at h
    obtain ⟨v, r, rfl, ⟨rfl, _⟩, v2, r2, rfl, ⟨us, vs, rfl, h1, h2⟩, rfl⟩ := h
    have e1 : us = #[] := by cases us; simp at h1; simp [h1]
    have e2 : vs = #[] := by cases vs; simp at h2; simp [h2]
    rw [e1, e2]
  refine (Any.strings_ContainsFunc hL (T.getD 125 0) #[] he (fun r => !runeOk r) s w (hp w)).mono ?_
  rintro e w' ⟨rfl, hb⟩
  refine ⟨?_, hb⟩
  have := idxFunc_low s s.size 0 (by omega)
  congr 2
  exact decide_eq_decide.2 (this.trans (by simp))
end Go.Av

namespace Go.Av
variable {P : Program} {T : List Nat}
theorem numP_iff (s : Bs) : NumP s ↔ (s.size : Int) ≤ 8 ∧ ∀ i, i < s.size → LowDig (byteAt s i) := by
  unfold NumP; constructor
  · rintro ⟨h1, h2⟩; exact ⟨by omega, h1⟩
  · rintro ⟨h1, h2⟩; exact ⟨h2, by omega⟩
theorem proper_con (L : Lay P T) (V : StrLib P T) (x : Item) (hx : x.id.size ≤ 1048576) : Con P T 108 [.agg x.row] (.imm (.bool (decide (Proper x)))) := by
  refine Con_of nul L.t_code_proper [] [] (by exact Nat.le_of_ble_eq_true rfl) ?_
  change wCode _ (b_code_proper (T.getD · 0)) _ _ _ _
  simp -implicitDefEqProofs only [b_code_proper,Item.row,za0,za1,za2,za3,za4,eff,AV.ptrOf,AV.tokOf,za5,za6,AV.weaks,AV.weak1,za7,za8,za9,zb0,zb1,zb2,zb3,zb4,zb5,zb6,zb7,zb8,zb9,zc0,zc1,zc2,zc3,zc4,zc5,zc6,zc7,zc8,zc9,zd0,zd1,zd2,zd3,zd4,zd5,zd6,zd7,zd8,zd9,ze0,ze1,ze2,ze3,ze4,ze5,ze6,ze7,ze8,ze9,zf0,zf1,zf2,zf3,zf4,zf5,zf6,zf7,zf8,zf9,zg0,zg1,zg2,zg3,zg4,zg5,zg6,zg7,zg8,zg9,zh0,zh1,zh2,zh3,zh4,zh5,zh6,zh7,zh8,zh9,zi0,zi1,zi2,zi3,zi4,zi5,zi6,wSnil,zi7,zi8,zi9,zj0,zj1,zj2,zj3,zj4,zj5,zj6,zj7,zj8,AV.flatB,AV.flatBs,zj9,zk0,zk1,zk2,zk3,zk4,zk5,zk6,act,AV.cells,AV.mk,AV.asSl,AV.asInt,AV.vslOf,wIdx,zk7,zk8,zk9,zl0,zl1,zl2,zl3,st0,env0,zl4,zl5,zl6,Nat.reduceAdd,Nat.reduceEqDiff,Nat.reduceLeDiff,↓reduceIte,AV.ofV,unV,← decide_not,zl7,zl8,zl9,zm0,zm1,zm2,zm3,zm4,zm5,zm6,zm7,zm8,zm9,zn0,zn1,zn2,zn3,zn4,zn5,zn6,zn7,reduceCtorEq,rowsOf,pureCells,AV.weak,AV.pureB,AV.pureBs,zn8,zn9,zo0,zo1,zo2,Nat.reduceBEq,zo3,zo4,zo5,zo6,zo7,zo8,zo9,zp0,zp1]
  refine wOps_cutL 11 [(3, .imm (.bool (decide (NumP x.number)))), (1, .ptr 1 1 0)] ?_ ?_
  · simp -implicitDefEqProofs only [r_code_proper_0,Envs,za0,za1,za2,za3,za4,eff,AV.ptrOf,AV.tokOf,za5,za6,AV.weaks,AV.weak1,za7,za8,za9,zb0,zb1,zb2,zb3,zb4,zb5,zb6,zb7,zb8,zb9,zc0,zc1,zc2,zc3,zc4,zc5,zc6,zc7,zc8,zc9,zd0,zd1,zd2,zd3,zd4,zd5,zd6,zd7,zd8,zd9,ze0,ze1,ze2,ze3,ze4,ze5,ze6,ze7,ze8,ze9,zf0,zf1,zf2,zf3,zf4,zf5,zf6,zf7,zf8,zf9,zg0,zg1,zg2,zg3,zg4,zg5,zg6,zg7,zg8,zg9,zh0,zh1,zh2,zh3,zh4,zh5,zh6,zh7,zh8,zh9,zi0,zi1,zi2,zi3,zi4,zi5,zi6,wSnil,zi7,zi8,zi9,zj0,zj1,zj2,zj3,zj4,zj5,zj6,zj7,zj8,AV.flatB,AV.flatBs,zj9,zk0,zk1,zk2,zk3,zk4,zk5,zk6,act,AV.cells,AV.mk,AV.asSl,AV.asInt,AV.vslOf,wIdx,zk7,zk8,zk9,zl0,zl1,zl2,zl3,st0,env0,zl4,zl5,zl6,Nat.reduceAdd,Nat.reduceEqDiff,Nat.reduceLeDiff,↓reduceIte,AV.ofV,unV,← decide_not,zl7,zl8,zl9,zm0,zm1,zm2,zm3,zm4,zm5,zm6,zm7,zm8,zm9,zn0,zn1,zn2,zn3,zn4,zn5,zn6,zn7,reduceCtorEq,rowsOf,pureCells,AV.weak,AV.pureB,AV.pureBs,zn8,zn9,zo0,zo1,zo2,Nat.reduceBEq,zo3,zo4,zo5,zo6,zo7,zo8,zo9,zp0,zp1]
    refine ⟨fun h8 => ?_, fun h8 => ?_⟩
    · refine wCall_imm (contains_con V x.number) rfl (AV.les2_refl _) ?_
      simp -implicitDefEqProofs only [Envs,za0,za1,za2,za3,za4,eff,AV.ptrOf,AV.tokOf,za5,za6,AV.weaks,AV.weak1,za7,za8,za9,zb0,zb1,zb2,zb3,zb4,zb5,zb6,zb7,zb8,zb9,zc0,zc1,zc2,zc3,zc4,zc5,zc6,zc7,zc8,zc9,zd0,zd1,zd2,zd3,zd4,zd5,zd6,zd7,zd8,zd9,ze0,ze1,ze2,ze3,ze4,ze5,ze6,ze7,ze8,ze9,zf0,zf1,zf2,zf3,zf4,zf5,zf6,zf7,zf8,zf9,zg0,zg1,zg2,zg3,zg4,zg5,zg6,zg7,zg8,zg9,zh0,zh1,zh2,zh3,zh4,zh5,zh6,zh7,zh8,zh9,zi0,zi1,zi2,zi3,zi4,zi5,zi6,wSnil,zi7,zi8,zi9,zj0,zj1,zj2,zj3,zj4,zj5,zj6,zj7,zj8,AV.flatB,AV.flatBs,zj9,zk0,zk1,zk2,zk3,zk4,zk5,zk6,act,AV.cells,AV.mk,AV.asSl,AV.asInt,AV.vslOf,wIdx,zk7,zk8,zk9,zl0,zl1,zl2,zl3,st0,env0,zl4,zl5,zl6,Nat.reduceAdd,Nat.reduceEqDiff,Nat.reduceLeDiff,↓reduceIte,AV.ofV,unV,← decide_not,zl7,zl8,zl9,zm0,zm1,zm2,zm3,zm4,zm5,zm6,zm7,zm8,zm9,zn0,zn1,zn2,zn3,zn4,zn5,zn6,zn7,reduceCtorEq,rowsOf,pureCells,AV.weak,AV.pureB,AV.pureBs,zn8,zn9,zo0,zo1,zo2,Nat.reduceBEq,zo3,zo4,zo5,zo6,zo7,zo8,zo9,zp0,zp1]
      repeat' apply And.intro
      all_goals first | rfl | trivial | skip
      exact b_d (by rw [numP_iff]; simp [h8])
    · repeat' apply And.intro
      all_goals first | rfl | trivial | skip
      exact b_f (by rw [numP_iff]; simp [h8])
  rintro e' ⟨k3, k1, -⟩
  simp -implicitDefEqProofs only [r_code_proper_0,k3,k1,za0,za1,za2,za3,za4,eff,AV.ptrOf,AV.tokOf,za5,za6,AV.weaks,AV.weak1,za7,za8,za9,zb0,zb1,zb2,zb3,zb4,zb5,zb6,zb7,zb8,zb9,zc0,zc1,zc2,zc3,zc4,zc5,zc6,zc7,zc8,zc9,zd0,zd1,zd2,zd3,zd4,zd5,zd6,zd7,zd8,zd9,ze0,ze1,ze2,ze3,ze4,ze5,ze6,ze7,ze8,ze9,zf0,zf1,zf2,zf3,zf4,zf5,zf6,zf7,zf8,zf9,zg0,zg1,zg2,zg3,zg4,zg5,zg6,zg7,zg8,zg9,zh0,zh1,zh2,zh3,zh4,zh5,zh6,zh7,zh8,zh9,zi0,zi1,zi2,zi3,zi4,zi5,zi6,wSnil,zi7,zi8,zi9,zj0,zj1,zj2,zj3,zj4,zj5,zj6,zj7,zj8,AV.flatB,AV.flatBs,zj9,zk0,zk1,zk2,zk3,zk4,zk5,zk6,act,AV.cells,AV.mk,AV.asSl,AV.asInt,AV.vslOf,wIdx,zk7,zk8,zk9,zl0,zl1,zl2,zl3,st0,env0,zl4,zl5,zl6,Nat.reduceAdd,Nat.reduceEqDiff,Nat.reduceLeDiff,↓reduceIte,AV.ofV,unV,← decide_not,zl7,zl8,zl9,zm0,zm1,zm2,zm3,zm4,zm5,zm6,zm7,zm8,zm9,zn0,zn1,zn2,zn3,zn4,zn5,zn6,zn7,reduceCtorEq,rowsOf,pureCells,AV.weak,AV.pureB,AV.pureBs,zn8,zn9,zo0,zo1,zo2,Nat.reduceBEq,zo3,zo4,zo5,zo6,zo7,zo8,zo9,zp0,zp1]
  refine ⟨fun hk1 => ?_, fun hk1 => ⟨fun hk2 => ?_, fun hk2 => ?_⟩⟩
  · simp -implicitDefEqProofs only [r_code_proper_1,k3,k1,za0,za1,za2,za3,za4,eff,AV.ptrOf,AV.tokOf,za5,za6,AV.weaks,AV.weak1,za7,za8,za9,zb0,zb1,zb2,zb3,zb4,zb5,zb6,zb7,zb8,zb9,zc0,zc1,zc2,zc3,zc4,zc5,zc6,zc7,zc8,zc9,zd0,zd1,zd2,zd3,zd4,zd5,zd6,zd7,zd8,zd9,ze0,ze1,ze2,ze3,ze4,ze5,ze6,ze7,ze8,ze9,zf0,zf1,zf2,zf3,zf4,zf5,zf6,zf7,zf8,zf9,zg0,zg1,zg2,zg3,zg4,zg5,zg6,zg7,zg8,zg9,zh0,zh1,zh2,zh3,zh4,zh5,zh6,zh7,zh8,zh9,zi0,zi1,zi2,zi3,zi4,zi5,zi6,wSnil,zi7,zi8,zi9,zj0,zj1,zj2,zj3,zj4,zj5,zj6,zj7,zj8,AV.flatB,AV.flatBs,zj9,zk0,zk1,zk2,zk3,zk4,zk5,zk6,act,AV.cells,AV.mk,AV.asSl,AV.asInt,AV.vslOf,wIdx,zk7,zk8,zk9,zl0,zl1,zl2,zl3,st0,env0,zl4,zl5,zl6,Nat.reduceAdd,Nat.reduceEqDiff,Nat.reduceLeDiff,↓reduceIte,AV.ofV,unV,← decide_not,zl7,zl8,zl9,zm0,zm1,zm2,zm3,zm4,zm5,zm6,zm7,zm8,zm9,zn0,zn1,zn2,zn3,zn4,zn5,zn6,zn7,reduceCtorEq,rowsOf,pureCells,AV.weak,AV.pureB,AV.pureBs,zn8,zn9,zo0,zo1,zo2,Nat.reduceBEq,zo3,zo4,zo5,zo6,zo7,zo8,zo9,zp0,zp1]
    refine ⟨fun hn => wCall_imm (isName_con L x.id hx) rfl (AV.les2_refl _) ?_, fun hn => ?_⟩
    · simp -implicitDefEqProofs only [k3,k1,za0,za1,za2,za3,za4,eff,AV.ptrOf,AV.tokOf,za5,za6,AV.weaks,AV.weak1,za7,za8,za9,zb0,zb1,zb2,zb3,zb4,zb5,zb6,zb7,zb8,zb9,zc0,zc1,zc2,zc3,zc4,zc5,zc6,zc7,zc8,zc9,zd0,zd1,zd2,zd3,zd4,zd5,zd6,zd7,zd8,zd9,ze0,ze1,ze2,ze3,ze4,ze5,ze6,ze7,ze8,ze9,zf0,zf1,zf2,zf3,zf4,zf5,zf6,zf7,zf8,zf9,zg0,zg1,zg2,zg3,zg4,zg5,zg6,zg7,zg8,zg9,zh0,zh1,zh2,zh3,zh4,zh5,zh6,zh7,zh8,zh9,zi0,zi1,zi2,zi3,zi4,zi5,zi6,wSnil,zi7,zi8,zi9,zj0,zj1,zj2,zj3,zj4,zj5,zj6,zj7,zj8,AV.flatB,AV.flatBs,zj9,zk0,zk1,zk2,zk3,zk4,zk5,zk6,act,AV.cells,AV.mk,AV.asSl,AV.asInt,AV.vslOf,wIdx,zk7,zk8,zk9,zl0,zl1,zl2,zl3,st0,env0,zl4,zl5,zl6,Nat.reduceAdd,Nat.reduceEqDiff,Nat.reduceLeDiff,↓reduceIte,AV.ofV,unV,← decide_not,zl7,zl8,zl9,zm0,zm1,zm2,zm3,zm4,zm5,zm6,zm7,zm8,zm9,zn0,zn1,zn2,zn3,zn4,zn5,zn6,zn7,reduceCtorEq,rowsOf,pureCells,AV.weak,AV.pureB,AV.pureBs,zn8,zn9,zo0,zo1,zo2,Nat.reduceBEq,zo3,zo4,zo5,zo6,zo7,zo8,zo9,zp0,zp1]
      simp -implicitDefEqProofs only [c_code_proper,zp2,zp3,zp4,zp5,zp6,zp7,zp8,zp9,zq0,zq1,zl4,Nat.reduceEqDiff,↓reduceIte,zm0]
      repeat' (first | apply And.intro | intro _)
      all_goals first
        | exact (decide_eq_false fun h => by unfold Proper nilS at h; grind).symm
        | (rename_i h1 h2 h3; unfold Proper; simp only [hn,hk1,h1,h2,h3,nilS]; cases hg : x.gone <;> simp [tb])
    · simp -implicitDefEqProofs only [c_code_proper,zp2,zp3,zp4,zp5,zp6,zp7,zp8,zp9,zq0,zq1,zl4,Nat.reduceEqDiff,↓reduceIte,zm0]
      exact (decide_eq_false fun h => hn h.1).symm
  · simp -implicitDefEqProofs only [r_code_proper_2,k3,k1,za0,za1,za2,za3,za4,eff,AV.ptrOf,AV.tokOf,za5,za6,AV.weaks,AV.weak1,za7,za8,za9,zb0,zb1,zb2,zb3,zb4,zb5,zb6,zb7,zb8,zb9,zc0,zc1,zc2,zc3,zc4,zc5,zc6,zc7,zc8,zc9,zd0,zd1,zd2,zd3,zd4,zd5,zd6,zd7,zd8,zd9,ze0,ze1,ze2,ze3,ze4,ze5,ze6,ze7,ze8,ze9,zf0,zf1,zf2,zf3,zf4,zf5,zf6,zf7,zf8,zf9,zg0,zg1,zg2,zg3,zg4,zg5,zg6,zg7,zg8,zg9,zh0,zh1,zh2,zh3,zh4,zh5,zh6,zh7,zh8,zh9,zi0,zi1,zi2,zi3,zi4,zi5,zi6,wSnil,zi7,zi8,zi9,zj0,zj1,zj2,zj3,zj4,zj5,zj6,zj7,zj8,AV.flatB,AV.flatBs,zj9,zk0,zk1,zk2,zk3,zk4,zk5,zk6,act,AV.cells,AV.mk,AV.asSl,AV.asInt,AV.vslOf,wIdx,zk7,zk8,zk9,zl0,zl1,zl2,zl3,st0,env0,zl4,zl5,zl6,Nat.reduceAdd,Nat.reduceEqDiff,Nat.reduceLeDiff,↓reduceIte,AV.ofV,unV,← decide_not,zl7,zl8,zl9,zm0,zm1,zm2,zm3,zm4,zm5,zm6,zm7,zm8,zm9,zn0,zn1,zn2,zn3,zn4,zn5,zn6,zn7,reduceCtorEq,rowsOf,pureCells,AV.weak,AV.pureB,AV.pureBs,zn8,zn9,zo0,zo1,zo2,Nat.reduceBEq,zo3,zo4,zo5,zo6,zo7,zo8,zo9,zp0,zp1]
    refine ⟨fun hn => wCall_imm (isName_con L x.id hx) rfl (AV.les2_refl _) ?_, fun hn => ?_⟩
    · simp -implicitDefEqProofs only [k3,k1,za0,za1,za2,za3,za4,eff,AV.ptrOf,AV.tokOf,za5,za6,AV.weaks,AV.weak1,za7,za8,za9,zb0,zb1,zb2,zb3,zb4,zb5,zb6,zb7,zb8,zb9,zc0,zc1,zc2,zc3,zc4,zc5,zc6,zc7,zc8,zc9,zd0,zd1,zd2,zd3,zd4,zd5,zd6,zd7,zd8,zd9,ze0,ze1,ze2,ze3,ze4,ze5,ze6,ze7,ze8,ze9,zf0,zf1,zf2,zf3,zf4,zf5,zf6,zf7,zf8,zf9,zg0,zg1,zg2,zg3,zg4,zg5,zg6,zg7,zg8,zg9,zh0,zh1,zh2,zh3,zh4,zh5,zh6,zh7,zh8,zh9,zi0,zi1,zi2,zi3,zi4,zi5,zi6,wSnil,zi7,zi8,zi9,zj0,zj1,zj2,zj3,zj4,zj5,zj6,zj7,zj8,AV.flatB,AV.flatBs,zj9,zk0,zk1,zk2,zk3,zk4,zk5,zk6,act,AV.cells,AV.mk,AV.asSl,AV.asInt,AV.vslOf,wIdx,zk7,zk8,zk9,zl0,zl1,zl2,zl3,st0,env0,zl4,zl5,zl6,Nat.reduceAdd,Nat.reduceEqDiff,Nat.reduceLeDiff,↓reduceIte,AV.ofV,unV,← decide_not,zl7,zl8,zl9,zm0,zm1,zm2,zm3,zm4,zm5,zm6,zm7,zm8,zm9,zn0,zn1,zn2,zn3,zn4,zn5,zn6,zn7,reduceCtorEq,rowsOf,pureCells,AV.weak,AV.pureB,AV.pureBs,zn8,zn9,zo0,zo1,zo2,Nat.reduceBEq,zo3,zo4,zo5,zo6,zo7,zo8,zo9,zp0,zp1]
      simp -implicitDefEqProofs only [c_code_proper,zp2,zp3,zp4,zp5,zp6,zp7,zp8,zp9,zq0,zq1,zl4,Nat.reduceEqDiff,↓reduceIte,zm0]
      repeat' (first | apply And.intro | intro _)
      all_goals first
        | exact (decide_eq_false fun h => by unfold Proper at h; omega).symm
        | exact (decide_eq_false fun h => by unfold Proper nilS at h; grind).symm
        | exact decide_eq_decide.2 (by unfold Proper; simp only [hn,zo5]; constructor <;> (intro h'; first | omega | grind))
        | skip
    · simp -implicitDefEqProofs only [c_code_proper,zp2,zp3,zp4,zp5,zp6,zp7,zp8,zp9,zq0,zq1,zl4,Nat.reduceEqDiff,↓reduceIte,zm0]
      exact (decide_eq_false fun h => hn h.1).symm
  · simp -implicitDefEqProofs only [c_code_proper,k3,k1,za0,za1,za2,za3,za4,eff,AV.ptrOf,AV.tokOf,za5,za6,AV.weaks,AV.weak1,za7,za8,za9,zb0,zb1,zb2,zb3,zb4,zb5,zb6,zb7,zb8,zb9,zc0,zc1,zc2,zc3,zc4,zc5,zc6,zc7,zc8,zc9,zd0,zd1,zd2,zd3,zd4,zd5,zd6,zd7,zd8,zd9,ze0,ze1,ze2,ze3,ze4,ze5,ze6,ze7,ze8,ze9,zf0,zf1,zf2,zf3,zf4,zf5,zf6,zf7,zf8,zf9,zg0,zg1,zg2,zg3,zg4,zg5,zg6,zg7,zg8,zg9,zh0,zh1,zh2,zh3,zh4,zh5,zh6,zh7,zh8,zh9,zi0,zi1,zi2,zi3,zi4,zi5,zi6,wSnil,zi7,zi8,zi9,zj0,zj1,zj2,zj3,zj4,zj5,zj6,zj7,zj8,AV.flatB,AV.flatBs,zj9,zk0,zk1,zk2,zk3,zk4,zk5,zk6,act,AV.cells,AV.mk,AV.asSl,AV.asInt,AV.vslOf,wIdx,zk7,zk8,zk9,zl0,zl1,zl2,zl3,st0,env0,zl4,zl5,zl6,Nat.reduceAdd,Nat.reduceEqDiff,Nat.reduceLeDiff,↓reduceIte,AV.ofV,unV,← decide_not,zl7,zl8,zl9,zm0,zm1,zm2,zm3,zm4,zm5,zm6,zm7,zm8,zm9,zn0,zn1,zn2,zn3,zn4,zn5,zn6,zn7,reduceCtorEq,rowsOf,pureCells,AV.weak,AV.pureB,AV.pureBs,zn8,zn9,zo0,zo1,zo2,Nat.reduceBEq,zo3,zo4,zo5,zo6,zo7,zo8,zo9,zp0,zp1,zp2,zp3,zp4,zp5,zp6,zp7,zp8,zp9,zq0,zq1]
    exact (decide_eq_false fun h => by unfold Proper nilS at h; grind).symm
end Go.Av

namespace Go.Av
variable {P : Program} {T : List Nat} {σ : Type}
/-- Are all strings of a list of items of a size that indices can hold. -/
def Fit (l : List Item) : Prop := ∀ x ∈ l, x.id.size ≤ 1048576
def seenRow (s : Bs) : AV := .tup [.imm (.string s), .imm (.bool true)]
theorem findM_seen (s : Bs) : ∀ us : List Bs, findM false [2] [.imm (.string s)] (us.map seenRow) = some (if s ∈ us then some (.imm (.bool true)) else none)
  | [] => by simp [findM]
  | u :: us => by
    have ih := findM_seen s us
    simp only [zn5,seenRow,findM,AV.keyc,eqCells,eqCell,zo3,bytes_beq,zo1]
    by_cases h : u = s
    · simp [h]
    · have h' : ¬ s = u := fun e => h e.symm
      simp only [h,h',List.mem_cons,false_or,zq3,zn7,zo4]
      exact ih
theorem setM_seen (s : Bs) : ∀ us : List Bs, s ∉ us → setM false [2] [.imm (.string s)] (seenRow s) (us.map seenRow) = some ((us ++ [s]).map seenRow)
  | [], _ => rfl
  | u :: us, hn => by
    simp only [List.mem_cons,not_or] at hn
    have ih := setM_seen s us hn.2
    have h : ¬ u = s := fun e => hn.1 e.symm
    simp only [zn5,seenRow,zb0] at ih ⊢
    simp only [setM,AV.keyc,eqCells,eqCell,zo3,bytes_beq,zo1,hn.1,zq3,zn7,zo4,ih]
    rfl
theorem walkP_perm : ∀ (l : List Item) (a b op : List Bs), (∀ y, y ∈ a ↔ y ∈ b) → walkP a op l = walkP b op l
  | [], a, b, op, h => rfl
  | x :: l, a, b, op, h => by
    simp only [walkP,h]
    split
    · cases openAt op x with
      | none => rfl
      | some o =>
        simp only
        rw [walkP_perm l (x.id :: a) (x.id :: b) _ fun y => by simp [h]]
    · rfl
theorem wApp_full {st : St σ} {d sz bytes : Nat} {rows news : List (List AV)} {K : AV → St σ → Prop} (hb : (rows.length + news.length) * bytes ≤ 140737488355328)
    (hK : K (.sl sz (.own d (st.tgen d + 1)) (rows ++ news)) (st.give d (rows.length + news.length))) : wApp d st sz bytes (.sl sz .full rows) (.sl sz .full news) K := by
  simp only [wApp,AV.vslOf,AV.asSl,zo3]
  exact ⟨hb, by simpa [appTok, wOpt] using hK⟩
theorem walk_I (L : Lay P T) (V : StrLib P T) {O : Outs σ} {nt k0 : Nat} {th : List Nat} {fz : List (Nat × Nat × Nat)} (k : Nat) {st : St σ} (l : List Item) (hl : l.length ≤ 1048576) (hid : Fit l) (gv : Nat) (caps : List AV) (J : Nat → St σ → Prop)
    (h0 : J 0 st) (hst : ∀ i s s', Oth k (k + 62) s s' → J i s → J i s')
    (hv : ∀ i s o, i < l.length → (walkP [] [] l).1[i]? = some o → o.length ≤ i → J i s → (sys O P T 62 k [] []).IV gv ([.imm (.int .i64 i), .sl 1 .full (o.map srow)] ++ caps) s (fun r s' => J (i + 1) s' ∧ (∀ j, k ≤ j → j < k + 62 → s'.gen j = s.gen j ∧ s'.var j = s.var j ∧ s'.tgen j = s.tgen j ∧ s'.top j = s.top j))) :
    (sys O P T nt k0 th fz).I 74 [.agg [.sl 7 .ro (l.map Item.row)], .fv gv [] caps] st (fun r s => r = .imm (.bool (decide (ValidC l))) ∧ ∃ m, J m s ∧ (ValidC l → m = l.length)) := by
  refine I_of L.t_code_walk k [] [] (by exact Nat.le_of_ble_eq_true rfl) ?_
  show wCode _ b_code_walk _ _ _ _
  obtain ⟨e0, g0, v0, tg0, tp0, x0⟩ := st
  simp -implicitDefEqProofs only [b_code_walk,za0,za1,za2,za3,za4,eff,AV.ptrOf,AV.tokOf,za5,za6,AV.weaks,AV.weak1,za7,za8,za9,zb0,zb1,zb2,zb3,zb4,zb5,zb6,zb7,zb8,zb9,zc0,zc1,zc2,zc3,zc4,zc5,zc6,zc7,zc8,zc9,zd0,zd1,zd2,zd3,zd4,zd5,zd6,zd7,zd8,zd9,ze0,ze1,ze2,ze3,ze4,ze5,ze6,ze7,ze8,ze9,zf0,zf1,zf2,zf3,zf4,zf5,zf6,zf7,zf8,zf9,zg0,zg1,zg2,zg3,zg4,zg5,zg6,zg7,zg8,zg9,zh0,zh1,zh2,zh3,zh4,zh5,zh6,zh7,zh8,zh9,zi0,zi1,zi2,zi3,zi4,zi5,zi6,wSnil,zi7,zi8,zi9,zj0,zj1,zj2,zj3,zj4,zj5,zj6,zj7,zj8,AV.flatB,AV.flatBs,zj9,zk0,zk1,zk2,zk3,zk4,zk5,zk6,act,AV.cells,AV.mk,AV.asSl,AV.asInt,AV.vslOf,wIdx,zk7,zk8,zk9,zl0,zl1,zl2,zl3,st0,env0,zl4,zl5,zl6,Nat.reduceAdd,Nat.reduceEqDiff,Nat.reduceLeDiff,↓reduceIte,AV.ofV,unV,← decide_not,zl7,zl8,zl9,zm0,zm1,zm2,zm3,zm4,zm5,zm6,zm7,zm8,zm9,zn0,zn1,zn2,zn3,zn4,zn5,zn6,zn7,reduceCtorEq,rowsOf,pureCells,AV.weak,AV.pureB,AV.pureBs,zn8,zn9,zo0,zo1,zo2,Nat.reduceBEq,zo3,zo4,zo5,zo6,zo7,zo8,zo9,zp0,zp1,zq9]
  refine AW.loopW (fun n s => ∃ i : Nat, i + n = l.length ∧ s.env 1 = .fv gv [] caps ∧ s.env 2 = .ptr (k + 2) (s.gen (k + 2)) 0 ∧ 1 ≤ s.gen (k + 2) ∧ s.var (k + 2) = [.sl 7 .ro (l.map Item.row)] ∧
    s.env 12 = .sl 7 .ro (l.map Item.row) ∧ s.env 13 = .imm (.int .i64 l.length) ∧ s.env 14 = .imm (.int .i64 i) ∧ J i s ∧ s.env 5 = .mp (k + 10) (s.gen (k + 10)) ∧
    ∃ seen cur, s.var (k + 10) = seen.map seenRow ∧ s.env 6 = .sl 1 .ro (cur.map srow) ∧ cur.length ≤ i ∧ ∃ pre, pre.length = i ∧ walkP [] [] l = (pre ++ (walkP seen cur (l.drop i)).1, (walkP seen cur (l.drop i)).2)) l.length ?_ ?_
  · refine ⟨_, Weak.slot 6 (.sl 1 .ro []) (by simp [upd, AV.le, AV.le2, AV.le1]), 0, by simp, rfl, ?_, ?_, ?_, rfl, rfl, rfl, hst 0 _ _ ?_ h0, ?_, [], [], ?_, rfl, by simp, [], rfl, by simp⟩
    all_goals first | (simp [upd, Nat.add_eq_left]; done) | skip
    · exact ⟨rfl, fun j hj => by simp [upd, show j ≠ k + 2 by omega, show j ≠ k + 10 by omega]⟩
  · rintro n ⟨e, g, v, tg, tp, x⟩ ⟨i, hi, h1, h2, h2g, h2v, h12, h13, h14, hJ, h5, seen, cur, hseen, h6, hcl, pre, hpre, hwalk⟩
    simp only at h1 h2 h2g h2v h12 h13 h14 h5 hseen h6
    simp -implicitDefEqProofs only [l_code_walk_0,Item.row,splice,zq7,zq8,h1,h2,h2g,h2v,h12,h13,h14,h5,h6,za0,za1,za2,za3,za4,eff,AV.ptrOf,AV.tokOf,za5,za6,AV.weaks,AV.weak1,za7,za8,za9,zb0,zb1,zb2,zb3,zb4,zb5,zb6,zb7,zb8,zb9,zc0,zc1,zc2,zc3,zc4,zc5,zc6,zc7,zc8,zc9,zd0,zd1,zd2,zd3,zd4,zd5,zd6,zd7,zd8,zd9,ze0,ze1,ze2,ze3,ze4,ze5,ze6,ze7,ze8,ze9,zf0,zf1,zf2,zf3,zf4,zf5,zf6,zf7,zf8,zf9,zg0,zg1,zg2,zg3,zg4,zg5,zg6,zg7,zg8,zg9,zh0,zh1,zh2,zh3,zh4,zh5,zh6,zh7,zh8,zh9,zi0,zi1,zi2,zi3,zi4,zi5,zi6,wSnil,zi7,zi8,zi9,zj0,zj1,zj2,zj3,zj4,zj5,zj6,zj7,zj8,AV.flatB,AV.flatBs,zj9,zk0,zk1,zk2,zk3,zk4,zk5,zk6,act,AV.cells,AV.mk,AV.asSl,AV.asInt,AV.vslOf,wIdx,zk7,zk8,zk9,zl0,zl1,zl2,zl3,st0,env0,zl4,zl5,zl6,Nat.reduceAdd,Nat.reduceEqDiff,Nat.reduceLeDiff,↓reduceIte,AV.ofV,unV,← decide_not,zl7,zl8,zl9,zm0,zm1,zm2,zm3,zm4,zm5,zm6,zm7,zm8,zm9,zn0,zn1,zn2,zn3,zn4,zn5,zn6,zn7,reduceCtorEq,rowsOf,pureCells,AV.weak,AV.pureB,AV.pureBs,zn8,zn9,zo0,zo1,zo2,Nat.reduceBEq,zo3,zo4,zo5,zo6,zo7,zo8,zo9,zp0,zp1,zq9,zr1,zr2,zr3,and_imp,zr4,zr0]
    refine ⟨fun hlt => ⟨⟨by omega, by omega⟩, fun a ha => ?_⟩, fun hge => ?_⟩
    · have hil : i < l.length := by omega
      have hdrop : l.drop i = a :: l.drop (i + 1) := by
        rw [List.drop_eq_getElem_cons hil]
        rw [List.getElem?_eq_getElem hil] at ha
        injection ha with ha
        rw [ha]
      have hw := hwalk
      rw [hdrop] at hw
      refine wOps_cutL 9 [(27, .imm (.bool (decide (¬ (Proper a ∧ a.id ∉ seen))))), (1, .fv gv [] caps), (2, .ptr (k + 2) (g (k + 2)) 0), (12, .sl 7 .ro (l.map Item.row)), (13, .imm (.int .i64 l.length)), (14, .imm (.int .i64 i)), (5, .mp (k + 10) (g (k + 10))), (6, .sl 1 .ro (cur.map srow)), (7, .imm (.int .i64 i)), (8, .ptr (k + 8) (g (k + 8) + 1) 0)] ?_ ?_
      · simp -implicitDefEqProofs only [r_code_walk_0,Envs,h1,h2,h2g,h2v,h12,h13,h14,h5,h6,za0,za1,za2,za3,za4,eff,AV.ptrOf,AV.tokOf,za5,za6,AV.weaks,AV.weak1,za7,za8,za9,zb0,zb1,zb2,zb3,zb4,zb5,zb6,zb7,zb8,zb9,zc0,zc1,zc2,zc3,zc4,zc5,zc6,zc7,zc8,zc9,zd0,zd1,zd2,zd3,zd4,zd5,zd6,zd7,zd8,zd9,ze0,ze1,ze2,ze3,ze4,ze5,ze6,ze7,ze8,ze9,zf0,zf1,zf2,zf3,zf4,zf5,zf6,zf7,zf8,zf9,zg0,zg1,zg2,zg3,zg4,zg5,zg6,zg7,zg8,zg9,zh0,zh1,zh2,zh3,zh4,zh5,zh6,zh7,zh8,zh9,zi0,zi1,zi2,zi3,zi4,zi5,zi6,wSnil,zi7,zi8,zi9,zj0,zj1,zj2,zj3,zj4,zj5,zj6,zj7,zj8,AV.flatB,AV.flatBs,zj9,zk0,zk1,zk2,zk3,zk4,zk5,zk6,act,AV.cells,AV.mk,AV.asSl,AV.asInt,AV.vslOf,wIdx,zk7,zk8,zk9,zl0,zl1,zl2,zl3,st0,env0,zl4,zl5,zl6,Nat.reduceAdd,Nat.reduceEqDiff,Nat.reduceLeDiff,↓reduceIte,AV.ofV,unV,← decide_not,zl7,zl8,zl9,zm0,zm1,zm2,zm3,zm4,zm5,zm6,zm7,zm8,zm9,zn0,zn1,zn2,zn3,zn4,zn5,zn6,zn7,reduceCtorEq,rowsOf,pureCells,AV.weak,AV.pureB,AV.pureBs,zn8,zn9,zo0,zo1,zo2,Nat.reduceBEq,zo3,zo4,zo5,zo6,zo7,zo8,zo9,zp0,zp1]
        refine wCall_imm (proper_con L V a (hid a (List.mem_of_getElem? ha))) rfl (AV.les2_refl _) ?_
        simp -implicitDefEqProofs only [r_code_walk_0,Envs,h1,h2,h2g,h2v,h12,h13,h14,h5,h6,za0,za1,za2,za3,za4,eff,AV.ptrOf,AV.tokOf,za5,za6,AV.weaks,AV.weak1,za7,za8,za9,zb0,zb1,zb2,zb3,zb4,zb5,zb6,zb7,zb8,zb9,zc0,zc1,zc2,zc3,zc4,zc5,zc6,zc7,zc8,zc9,zd0,zd1,zd2,zd3,zd4,zd5,zd6,zd7,zd8,zd9,ze0,ze1,ze2,ze3,ze4,ze5,ze6,ze7,ze8,ze9,zf0,zf1,zf2,zf3,zf4,zf5,zf6,zf7,zf8,zf9,zg0,zg1,zg2,zg3,zg4,zg5,zg6,zg7,zg8,zg9,zh0,zh1,zh2,zh3,zh4,zh5,zh6,zh7,zh8,zh9,zi0,zi1,zi2,zi3,zi4,zi5,zi6,wSnil,zi7,zi8,zi9,zj0,zj1,zj2,zj3,zj4,zj5,zj6,zj7,zj8,AV.flatB,AV.flatBs,zj9,zk0,zk1,zk2,zk3,zk4,zk5,zk6,act,AV.cells,AV.mk,AV.asSl,AV.asInt,AV.vslOf,wIdx,zk7,zk8,zk9,zl0,zl1,zl2,zl3,st0,env0,zl4,zl5,zl6,Nat.reduceAdd,Nat.reduceEqDiff,Nat.reduceLeDiff,↓reduceIte,AV.ofV,unV,← decide_not,zl7,zl8,zl9,zm0,zm1,zm2,zm3,zm4,zm5,zm6,zm7,zm8,zm9,zn0,zn1,zn2,zn3,zn4,zn5,zn6,zn7,reduceCtorEq,rowsOf,pureCells,AV.weak,AV.pureB,AV.pureBs,zn8,zn9,zo0,zo1,zo2,Nat.reduceBEq,zo3,zo4,zo5,zo6,zo7,zo8,zo9,zp0,zp1,wMget,AV.keyc,hseen,findM_seen,Nat.add_right_inj]
        refine ⟨fun hp => ?_, fun hp => b_t (by simp [hp])⟩
        by_cases hs : a.id ∈ seen
        · simp only [hs,zo3,zm0]
          exact b_t (by simp [hs])
        · simp only [hs,zo4,zm1]
          exact b_f (by simp [hs, hp])
      rintro e1 ⟨k27, k1, k2, k12, k13, k14, k5, k6, k7, k8, -⟩
      simp -implicitDefEqProofs only [r_code_walk_0,k27,k1,k2,k12,k13,k14,k5,k6,k7,k8,h2g,h2v,za0,za1,za2,za3,za4,eff,AV.ptrOf,AV.tokOf,za5,za6,AV.weaks,AV.weak1,za7,za8,za9,zb0,zb1,zb2,zb3,zb4,zb5,zb6,zb7,zb8,zb9,zc0,zc1,zc2,zc3,zc4,zc5,zc6,zc7,zc8,zc9,zd0,zd1,zd2,zd3,zd4,zd5,zd6,zd7,zd8,zd9,ze0,ze1,ze2,ze3,ze4,ze5,ze6,ze7,ze8,ze9,zf0,zf1,zf2,zf3,zf4,zf5,zf6,zf7,zf8,zf9,zg0,zg1,zg2,zg3,zg4,zg5,zg6,zg7,zg8,zg9,zh0,zh1,zh2,zh3,zh4,zh5,zh6,zh7,zh8,zh9,zi0,zi1,zi2,zi3,zi4,zi5,zi6,wSnil,zi7,zi8,zi9,zj0,zj1,zj2,zj3,zj4,zj5,zj6,zj7,zj8,AV.flatB,AV.flatBs,zj9,zk0,zk1,zk2,zk3,zk4,zk5,zk6,act,AV.cells,AV.mk,AV.asSl,AV.asInt,AV.vslOf,wIdx,zk7,zk8,zk9,zl0,zl1,zl2,zl3,st0,env0,zl4,zl5,zl6,Nat.reduceAdd,Nat.reduceEqDiff,Nat.reduceLeDiff,↓reduceIte,AV.ofV,unV,← decide_not,zl7,zl8,zl9,zm0,zm1,zm2,zm3,zm4,zm5,zm6,zm7,zm8,zm9,zn0,zn1,zn2,zn3,zn4,zn5,zn6,zn7,reduceCtorEq,rowsOf,pureCells,AV.weak,AV.pureB,AV.pureBs,zn8,zn9,zo0,zo1,zo2,Nat.reduceBEq,zo3,zo4,zo5,zo6,zo7,zo8,zo9,zp0,zp1]
      have hoth : ∀ (g' : Nat → Nat) (v' : Nat → List AV) (tg' : Nat → Nat) (tp' : Nat → Option Nat), (∀ j, (j < k ∨ k + 62 ≤ j) → g' j = g j ∧ v' j = v j ∧ tg' j = tg j ∧ tp' j = tp j) → ∀ e', J i ⟨e', g', v', tg', tp', x⟩ := fun g' v' tg' tp' h e' => hst i ⟨e, g, v, tg, tp, x⟩ ⟨e', g', v', tg', tp', x⟩ ⟨rfl, h⟩ hJ
      refine ⟨fun hbad => ?_, fun hgood => ?_⟩
      · simp -implicitDefEqProofs only [c_code_walk,za0,za1,za2,za3,za4,eff,AV.ptrOf,AV.tokOf,za5,za6,AV.weaks,AV.weak1,za7,za8,za9,zb0,zb1,zb2,zb3,zb4,zb5,zb6,zb7,zb8,zb9,zc0,zc1,zc2,zc3,zc4,zc5,zc6,zc7,zc8,zc9,zd0,zd1,zd2,zd3,zd4,zd5,zd6,zd7,zd8,zd9,ze0,ze1,ze2,ze3,ze4,ze5,ze6,ze7,ze8,ze9,zf0,zf1,zf2,zf3,zf4,zf5,zf6,zf7,zf8,zf9,zg0,zg1,zg2,zg3,zg4,zg5,zg6,zg7,zg8,zg9,zh0,zh1,zh2,zh3,zh4,zh5,zh6,zh7,zh8,zh9,zi0,zi1,zi2,zi3,zi4,zi5,zi6,wSnil,zi7,zi8,zi9,zj0,zj1,zj2,zj3,zj4,zj5,zj6,zj7,zj8,AV.flatB,AV.flatBs,zj9,zk0,zk1,zk2,zk3,zk4,zk5,zk6,act,AV.cells,AV.mk,AV.asSl,AV.asInt,AV.vslOf,wIdx,zk7,zk8,zk9,zl0,zl1,zl2,zl3,st0,env0,zl4,zl5,zl6,Nat.reduceAdd,Nat.reduceEqDiff,Nat.reduceLeDiff,↓reduceIte,AV.ofV,unV,← decide_not,zl7,zl8,zl9,zm0,zm1,zm2,zm3,zm4,zm5,zm6,zm7,zm8,zm9,zn0,zn1,zn2,zn3,zn4,zn5,zn6,zn7,reduceCtorEq,rowsOf,pureCells,AV.weak,AV.pureB,AV.pureBs,zn8,zn9,zo0,zo1,zo2,Nat.reduceBEq,zo3,zo4,zo5,zo6,zo7,zo8,zo9,zp0,zp1,zp2,zp3,zp4,zp5,zp6,zp7,zp8,zp9,zq0,zq1]
        have hf : ¬ ValidC l := fun h => by
          have := h.1
          rw [hw, walkP, if_neg hbad] at this
          cases this
        refine ⟨b_f hf, i, hoth _ _ _ _ (fun j hj => ?_) _, fun h => absurd h hf⟩
        simp [upd, show j ≠ k + 8 by omega]
      simp -implicitDefEqProofs only [wMset,AV.keyc,hseen,Nat.add_right_inj,za0,za1,za2,za3,za4,eff,AV.ptrOf,AV.tokOf,za5,za6,AV.weaks,AV.weak1,za7,za8,za9,zb0,zb1,zb2,zb3,zb4,zb5,zb6,zb7,zb8,zb9,zc0,zc1,zc2,zc3,zc4,zc5,zc6,zc7,zc8,zc9,zd0,zd1,zd2,zd3,zd4,zd5,zd6,zd7,zd8,zd9,ze0,ze1,ze2,ze3,ze4,ze5,ze6,ze7,ze8,ze9,zf0,zf1,zf2,zf3,zf4,zf5,zf6,zf7,zf8,zf9,zg0,zg1,zg2,zg3,zg4,zg5,zg6,zg7,zg8,zg9,zh0,zh1,zh2,zh3,zh4,zh5,zh6,zh7,zh8,zh9,zi0,zi1,zi2,zi3,zi4,zi5,zi6,wSnil,zi7,zi8,zi9,zj0,zj1,zj2,zj3,zj4,zj5,zj6,zj7,zj8,AV.flatB,AV.flatBs,zj9,zk0,zk1,zk2,zk3,zk4,zk5,zk6,act,AV.cells,AV.mk,AV.asSl,AV.asInt,AV.vslOf,wIdx,zk7,zk8,zk9,zl0,zl1,zl2,zl3,st0,env0,zl4,zl5,zl6,Nat.reduceAdd,Nat.reduceEqDiff,Nat.reduceLeDiff,↓reduceIte,AV.ofV,unV,← decide_not,zl7,zl8,zl9,zm0,zm1,zm2,zm3,zm4,zm5,zm6,zm7,zm8,zm9,zn0,zn1,zn2,zn3,zn4,zn5,zn6,zn7,reduceCtorEq,rowsOf,pureCells,AV.weak,AV.pureB,AV.pureBs,zn8,zn9,zo0,zo1,zo2,Nat.reduceBEq,zo3,zo4,zo5,zo6,zo7,zo8,zo9,zp0,zp1]
      rw [show AV.tup [AV.imm (.string a.id), AV.imm (.bool true)] = seenRow a.id from rfl, setM_seen _ _ hgood.2]
      simp -implicitDefEqProofs only [k1,k2,k12,k13,k14,k5,k6,k7,k8,h2g,h2v,Nat.add_right_inj,za0,za1,za2,za3,za4,eff,AV.ptrOf,AV.tokOf,za5,za6,AV.weaks,AV.weak1,za7,za8,za9,zb0,zb1,zb2,zb3,zb4,zb5,zb6,zb7,zb8,zb9,zc0,zc1,zc2,zc3,zc4,zc5,zc6,zc7,zc8,zc9,zd0,zd1,zd2,zd3,zd4,zd5,zd6,zd7,zd8,zd9,ze0,ze1,ze2,ze3,ze4,ze5,ze6,ze7,ze8,ze9,zf0,zf1,zf2,zf3,zf4,zf5,zf6,zf7,zf8,zf9,zg0,zg1,zg2,zg3,zg4,zg5,zg6,zg7,zg8,zg9,zh0,zh1,zh2,zh3,zh4,zh5,zh6,zh7,zh8,zh9,zi0,zi1,zi2,zi3,zi4,zi5,zi6,wSnil,zi7,zi8,zi9,zj0,zj1,zj2,zj3,zj4,zj5,zj6,zj7,zj8,AV.flatB,AV.flatBs,zj9,zk0,zk1,zk2,zk3,zk4,zk5,zk6,act,AV.cells,AV.mk,AV.asSl,AV.asInt,AV.vslOf,wIdx,zk7,zk8,zk9,zl0,zl1,zl2,zl3,st0,env0,zl4,zl5,zl6,Nat.reduceAdd,Nat.reduceEqDiff,Nat.reduceLeDiff,↓reduceIte,AV.ofV,unV,← decide_not,zl7,zl8,zl9,zm0,zm1,zm2,zm3,zm4,zm5,zm6,zm7,zm8,zm9,zn0,zn1,zn2,zn3,zn4,zn5,zn6,zn7,reduceCtorEq,rowsOf,pureCells,AV.weak,AV.pureB,AV.pureBs,zn8,zn9,zo0,zo1,zo2,Nat.reduceBEq,zo3,zo4,zo5,zo6,zo7,zo8,zo9,zp0,zp1]
      have hne : nilS = ⟨#[]⟩ := rfl
      have hwg : walkP seen cur (a :: l.drop (i + 1)) = (match openAt cur a with | none => ([], false) | some o => (o :: (walkP (a.id :: seen) (openNext o a) (l.drop (i + 1))).1, (walkP (a.id :: seen) (openNext o a) (l.drop (i + 1))).2)) := by
        rw [walkP, if_pos hgood]
        all_goals (cases openAt cur a <;> rfl)
      rw [hwg] at hw
      refine ⟨fun hp => ?_, fun hp => ?_⟩
      · obtain ⟨m, _, hm2, hm3, hc⟩ := sindex_con L cur a.parent (by omega)
        refine wCall_imm hc rfl (AV.les2_refl _) ?_
        by_cases hmem : a.parent ∈ cur
        · have hlt2 := List.idxOf_lt_length_of_mem hmem
          have hmw : IntKind.i64.wrap (m + 1) = ((cur.idxOf a.parent + 1 : Nat) : Int) := by
            rw [hm2 hmem, IntWalk.i64_in _ (by omega)]; rfl
          have hop2 : openAt cur a = some (cur.take (cur.idxOf a.parent + 1)) := by
            rw [openAt, if_neg (by rw [hne]; exact hp), if_pos hmem]
          simp -implicitDefEqProofs only [k1,k2,k12,k13,k14,k5,k6,k7,k8,h2g,h2v,hmw,Nat.add_right_inj,za0,za1,za2,za3,za4,eff,AV.ptrOf,AV.tokOf,za5,za6,AV.weaks,AV.weak1,za7,za8,za9,zb0,zb1,zb2,zb3,zb4,zb5,zb6,zb7,zb8,zb9,zc0,zc1,zc2,zc3,zc4,zc5,zc6,zc7,zc8,zc9,zd0,zd1,zd2,zd3,zd4,zd5,zd6,zd7,zd8,zd9,ze0,ze1,ze2,ze3,ze4,ze5,ze6,ze7,ze8,ze9,zf0,zf1,zf2,zf3,zf4,zf5,zf6,zf7,zf8,zf9,zg0,zg1,zg2,zg3,zg4,zg5,zg6,zg7,zg8,zg9,zh0,zh1,zh2,zh3,zh4,zh5,zh6,zh7,zh8,zh9,zi0,zi1,zi2,zi3,zi4,zi5,zi6,wSnil,zi7,zi8,zi9,zj0,zj1,zj2,zj3,zj4,zj5,zj6,zj7,zj8,AV.flatB,AV.flatBs,zj9,zk0,zk1,zk2,zk3,zk4,zk5,zk6,act,AV.cells,AV.mk,AV.asSl,AV.asInt,AV.vslOf,wIdx,zk7,zk8,zk9,zl0,zl1,zl2,zl3,st0,env0,zl4,zl5,zl6,Nat.reduceAdd,Nat.reduceEqDiff,Nat.reduceLeDiff,↓reduceIte,AV.ofV,unV,← decide_not,zl7,zl8,zl9,zm0,zm1,zm2,zm3,zm4,zm5,zm6,zm7,zm8,zm9,zn0,zn1,zn2,zn3,zn4,zn5,zn6,zn7,reduceCtorEq,rowsOf,pureCells,AV.weak,AV.pureB,AV.pureBs,zn8,zn9,zo0,zo1,zo2,Nat.reduceBEq,zo3,zo4,zo5,zo6,zo7,zo8,zo9,zp0,zp1,boundOf,Option.map_none,zq9,zr0,Int.toNat_zero]
          refine ⟨fun h => absurd h (by omega), fun _ => ⟨⟨by omega, by omega, by omega, rfl⟩, ?_⟩⟩
          rw [← List.map_take]
          generalize ho : cur.take (cur.idxOf a.parent + 1) = o at *
          rw [hop2] at hw
          have hget : (walkP [] [] l).1[i]? = some o := by
            rw [hw, List.getElem?_append_right (by omega), hpre, Nat.sub_self]; rfl
          have hol : o.length ≤ cur.length := (openAt_some hop2).2.length_le
          refine wCallV_I (hv i _ o hil hget (by omega) (hoth _ _ _ _ (fun j hj => by simp [upd, show j ≠ k + 8 by omega, show j ≠ k + 10 by omega]) _)) ?_
          rintro r s ⟨hJ1, hkeep⟩ he
          obtain ⟨e2, g2, v2, tg2, tp2, x2⟩ := s
          simp only at he hkeep
          subst he
          have q2 := hkeep (k + 2) (by omega) (by omega)
          have q8 := hkeep (k + 8) (by omega) (by omega)
          have q10 := hkeep (k + 10) (by omega) (by omega)
          simp only [zl4,Nat.add_right_inj,Nat.reduceEqDiff,zo3,zo4] at q2 q8 q10
          obtain ⟨q2a, q2b, -, -⟩ := q2
          obtain ⟨q8a, q8b, -, -⟩ := q8
          obtain ⟨q10a, q10b, -, -⟩ := q10
          have fin : ∀ (cur' : List Bs) (y : AV) (e3 : Nat → AV) (tg3 : Nat → Nat) (tp3 : Nat → Option Nat), cur' = openNext o a → y.le (.sl 1 .ro (cur'.map srow)) → e3 1 = .fv gv [] caps → e3 2 = .ptr (k + 2) (g2 (k + 2)) 0 → e3 12 = .sl 7 .ro (l.map Item.row) → e3 13 = .imm (.int .i64 l.length) → e3 14 = .imm (.int .i64 (IntKind.i64.wrap ((i : Int) + 1))) → e3 5 = .mp (k + 10) (g2 (k + 10)) → e3 6 = y → (∀ j, (j < k ∨ k + 62 ≤ j) → tg3 j = tg2 j ∧ tp3 j = tp2 j) →
              ∃ s'' n', Weak ⟨e3, g2, v2, tg3, tp3, x2⟩ s'' ∧ n' < n ∧ ∃ i : Nat, i + n' = l.length ∧ s''.env 1 = .fv gv [] caps ∧ s''.env 2 = .ptr (k + 2) (s''.gen (k + 2)) 0 ∧ 1 ≤ s''.gen (k + 2) ∧ s''.var (k + 2) = [.sl 7 .ro (l.map Item.row)] ∧
                s''.env 12 = .sl 7 .ro (l.map Item.row) ∧ s''.env 13 = .imm (.int .i64 l.length) ∧ s''.env 14 = .imm (.int .i64 i) ∧ J i s'' ∧ s''.env 5 = .mp (k + 10) (s''.gen (k + 10)) ∧
                ∃ seen cur, s''.var (k + 10) = seen.map seenRow ∧ s''.env 6 = .sl 1 .ro (cur.map srow) ∧ cur.length ≤ i ∧ ∃ pre, pre.length = i ∧ walkP [] [] l = (pre ++ (walkP seen cur (l.drop i)).1, (walkP seen cur (l.drop i)).2) := by
            rintro cur' y e3 tg3 tp3 rfl hle f1 f2 f12 f13 f14 f5 f6 ht
            refine ⟨_, n - 1, Weak.slot 6 (.sl 1 .ro ((openNext o a).map srow)) (by rw [f6]; exact hle), by omega, i + 1, by omega, ?_, ?_, ?_, ?_, ?_, ?_, ?_, ?_, ?_, seen ++ [a.id], openNext o a, ?_, ?_, ?_, pre ++ [o], by simp [hpre], ?_⟩
            · simp [upd, f1]
            · simp [upd, f2]
            · show 1 ≤ g2 (k + 2); rw [q2a]; exact h2g
            · show v2 (k + 2) = _; rw [q2b]; exact h2v
            · simp [upd, f12]
            · simp [upd, f13]
            · simp only [upd,f14]
              rw [IntWalk.i64_in _ (by omega)]; rfl
            · refine hst (i + 1) _ _ ?_ hJ1
              exact ⟨rfl, fun j hj => ⟨rfl, rfl, (ht j hj).1, (ht j hj).2⟩⟩
            · simp [upd, f5]
            · show v2 (k + 10) = _; rw [q10b]
            · simp [upd]
            · unfold openNext
              split <;> (try simp) <;> omega
            · rw [hw, walkP_perm _ (seen ++ [a.id]) (a.id :: seen) _ (fun y => by simp [or_comm])]
              simp
          simp -implicitDefEqProofs only [k1,k2,k12,k13,k14,k5,k6,k7,k8,q8a,q8b,Nat.add_right_inj,za0,za1,za2,za3,za4,eff,AV.ptrOf,AV.tokOf,za5,za6,AV.weaks,AV.weak1,za7,za8,za9,zb0,zb1,zb2,zb3,zb4,zb5,zb6,zb7,zb8,zb9,zc0,zc1,zc2,zc3,zc4,zc5,zc6,zc7,zc8,zc9,zd0,zd1,zd2,zd3,zd4,zd5,zd6,zd7,zd8,zd9,ze0,ze1,ze2,ze3,ze4,ze5,ze6,ze7,ze8,ze9,zf0,zf1,zf2,zf3,zf4,zf5,zf6,zf7,zf8,zf9,zg0,zg1,zg2,zg3,zg4,zg5,zg6,zg7,zg8,zg9,zh0,zh1,zh2,zh3,zh4,zh5,zh6,zh7,zh8,zh9,zi0,zi1,zi2,zi3,zi4,zi5,zi6,wSnil,zi7,zi8,zi9,zj0,zj1,zj2,zj3,zj4,zj5,zj6,zj7,zj8,AV.flatB,AV.flatBs,zj9,zk0,zk1,zk2,zk3,zk4,zk5,zk6,act,AV.cells,AV.mk,AV.asSl,AV.asInt,AV.vslOf,wIdx,zk7,zk8,zk9,zl0,zl1,zl2,zl3,st0,env0,zl4,zl5,zl6,Nat.reduceAdd,Nat.reduceEqDiff,Nat.reduceLeDiff,↓reduceIte,AV.ofV,unV,← decide_not,zl7,zl8,zl9,zm0,zm1,zm2,zm3,zm4,zm5,zm6,zm7,zm8,zm9,zn0,zn1,zn2,zn3,zn4,zn5,zn6,zn7,reduceCtorEq,rowsOf,pureCells,AV.weak,AV.pureB,AV.pureBs,zn8,zn9,zo0,zo1,zo2,Nat.reduceBEq,zo3,zo4,zo5,zo6,zo7,zo8,zo9,zp0,zp1]
          refine ⟨fun hk => ?_, fun hk => ?_⟩
          · refine wApp_full (by simp; omega) ?_
            simp -implicitDefEqProofs only [k1,k2,k12,k13,k14,k5,k6,k7,k8,q8a,q8b,Nat.add_right_inj,za0,za1,za2,za3,za4,eff,AV.ptrOf,AV.tokOf,za5,za6,AV.weaks,AV.weak1,za7,za8,za9,zb0,zb1,zb2,zb3,zb4,zb5,zb6,zb7,zb8,zb9,zc0,zc1,zc2,zc3,zc4,zc5,zc6,zc7,zc8,zc9,zd0,zd1,zd2,zd3,zd4,zd5,zd6,zd7,zd8,zd9,ze0,ze1,ze2,ze3,ze4,ze5,ze6,ze7,ze8,ze9,zf0,zf1,zf2,zf3,zf4,zf5,zf6,zf7,zf8,zf9,zg0,zg1,zg2,zg3,zg4,zg5,zg6,zg7,zg8,zg9,zh0,zh1,zh2,zh3,zh4,zh5,zh6,zh7,zh8,zh9,zi0,zi1,zi2,zi3,zi4,zi5,zi6,wSnil,zi7,zi8,zi9,zj0,zj1,zj2,zj3,zj4,zj5,zj6,zj7,zj8,AV.flatB,AV.flatBs,zj9,zk0,zk1,zk2,zk3,zk4,zk5,zk6,act,AV.cells,AV.mk,AV.asSl,AV.asInt,AV.vslOf,wIdx,zk7,zk8,zk9,zl0,zl1,zl2,zl3,st0,env0,zl4,zl5,zl6,Nat.reduceAdd,Nat.reduceEqDiff,Nat.reduceLeDiff,↓reduceIte,AV.ofV,unV,← decide_not,zl7,zl8,zl9,zm0,zm1,zm2,zm3,zm4,zm5,zm6,zm7,zm8,zm9,zn0,zn1,zn2,zn3,zn4,zn5,zn6,zn7,reduceCtorEq,rowsOf,pureCells,AV.weak,AV.pureB,AV.pureBs,zn8,zn9,zo0,zo1,zo2,Nat.reduceBEq,zo3,zo4,zo5,zo6,zo7,zo8,zo9,zp0,zp1]
            refine fin (openNext o a) (.sl 1 (.own (k + 56) (tg2 (k + 56) + 1)) (o.map srow ++ [[.imm (.string a.id)]])) _ _ _ rfl ?_ (by simp [upd, k1]) (by simp [upd, k2, q2a]) (by simp [upd, k12]) (by simp [upd, k13]) (by simp [upd, k14]) (by simp [upd, k5, q10a]) (by simp [upd]) (fun j hj => by simp [upd, show j ≠ k + 56 by omega])
            simp only [openNext,hk,zo3,List.map_append,zn5,zn6,srow]
            simp [AV.le, AV.le2, AV.le1]
          · refine fin (openNext o a) (.sl 1 .full (o.map srow)) _ _ _ rfl ?_ (by simp [upd, k1]) (by simp [upd, k2, q2a]) (by simp [upd, k12]) (by simp [upd, k13]) (by simp [upd, k14]) (by simp [upd, k5, q10a]) (by simp [upd]) (fun j hj => ⟨rfl, rfl⟩)
            simp only [openNext,hk,zo4]
            simp [AV.le, AV.le2, AV.le1]
        · have hop2 : openAt cur a = none := by
            rw [openAt, if_neg (by rw [hne]; exact hp), if_neg hmem]
          have hmw : IntKind.i64.wrap (m + 1) = 0 := by rw [hm3 hmem]; rfl
          rw [hop2] at hw
          have hf : ¬ ValidC l := fun h => by
            have := h.1
            rw [hw] at this
            cases this
          simp -implicitDefEqProofs only [hmw,c_code_walk,za0,za1,za2,za3,za4,eff,AV.ptrOf,AV.tokOf,za5,za6,AV.weaks,AV.weak1,za7,za8,za9,zb0,zb1,zb2,zb3,zb4,zb5,zb6,zb7,zb8,zb9,zc0,zc1,zc2,zc3,zc4,zc5,zc6,zc7,zc8,zc9,zd0,zd1,zd2,zd3,zd4,zd5,zd6,zd7,zd8,zd9,ze0,ze1,ze2,ze3,ze4,ze5,ze6,ze7,ze8,ze9,zf0,zf1,zf2,zf3,zf4,zf5,zf6,zf7,zf8,zf9,zg0,zg1,zg2,zg3,zg4,zg5,zg6,zg7,zg8,zg9,zh0,zh1,zh2,zh3,zh4,zh5,zh6,zh7,zh8,zh9,zi0,zi1,zi2,zi3,zi4,zi5,zi6,wSnil,zi7,zi8,zi9,zj0,zj1,zj2,zj3,zj4,zj5,zj6,zj7,zj8,AV.flatB,AV.flatBs,zj9,zk0,zk1,zk2,zk3,zk4,zk5,zk6,act,AV.cells,AV.mk,AV.asSl,AV.asInt,AV.vslOf,wIdx,zk7,zk8,zk9,zl0,zl1,zl2,zl3,st0,env0,zl4,zl5,zl6,Nat.reduceAdd,Nat.reduceEqDiff,Nat.reduceLeDiff,↓reduceIte,AV.ofV,unV,← decide_not,zl7,zl8,zl9,zm0,zm1,zm2,zm3,zm4,zm5,zm6,zm7,zm8,zm9,zn0,zn1,zn2,zn3,zn4,zn5,zn6,zn7,reduceCtorEq,rowsOf,pureCells,AV.weak,AV.pureB,AV.pureBs,zn8,zn9,zo0,zo1,zo2,Nat.reduceBEq,zo3,zo4,zo5,zo6,zo7,zo8,zo9,zp0,zp1,zp2,zp3,zp4,zp5,zp6,zp7,zp8,zp9,zq0,zq1]
          refine ⟨fun _ => ⟨b_f hf, i, hoth _ _ _ _ (fun j hj => ?_) _, fun h => absurd h hf⟩, fun h => absurd trivial h⟩
          simp [upd, show j ≠ k + 8 by omega, show j ≠ k + 10 by omega]
      · have hop2 : openAt cur a = some [] := by
          rw [openAt, if_pos (by rw [hne]; exact hp)]
        simp -implicitDefEqProofs only [k1,k2,k12,k13,k14,k5,k6,k7,k8,h2g,h2v,Nat.add_right_inj,za0,za1,za2,za3,za4,eff,AV.ptrOf,AV.tokOf,za5,za6,AV.weaks,AV.weak1,za7,za8,za9,zb0,zb1,zb2,zb3,zb4,zb5,zb6,zb7,zb8,zb9,zc0,zc1,zc2,zc3,zc4,zc5,zc6,zc7,zc8,zc9,zd0,zd1,zd2,zd3,zd4,zd5,zd6,zd7,zd8,zd9,ze0,ze1,ze2,ze3,ze4,ze5,ze6,ze7,ze8,ze9,zf0,zf1,zf2,zf3,zf4,zf5,zf6,zf7,zf8,zf9,zg0,zg1,zg2,zg3,zg4,zg5,zg6,zg7,zg8,zg9,zh0,zh1,zh2,zh3,zh4,zh5,zh6,zh7,zh8,zh9,zi0,zi1,zi2,zi3,zi4,zi5,zi6,wSnil,zi7,zi8,zi9,zj0,zj1,zj2,zj3,zj4,zj5,zj6,zj7,zj8,AV.flatB,AV.flatBs,zj9,zk0,zk1,zk2,zk3,zk4,zk5,zk6,act,AV.cells,AV.mk,AV.asSl,AV.asInt,AV.vslOf,wIdx,zk7,zk8,zk9,zl0,zl1,zl2,zl3,st0,env0,zl4,zl5,zl6,Nat.reduceAdd,Nat.reduceEqDiff,Nat.reduceLeDiff,↓reduceIte,AV.ofV,unV,← decide_not,zl7,zl8,zl9,zm0,zm1,zm2,zm3,zm4,zm5,zm6,zm7,zm8,zm9,zn0,zn1,zn2,zn3,zn4,zn5,zn6,zn7,reduceCtorEq,rowsOf,pureCells,AV.weak,AV.pureB,AV.pureBs,zn8,zn9,zo0,zo1,zo2,Nat.reduceBEq,zo3,zo4,zo5,zo6,zo7,zo8,zo9,zp0,zp1,boundOf,Option.map_none,zq9,zr0,Int.toNat_zero]
        refine ⟨⟨by omega, by omega, by omega, rfl⟩, ?_⟩
        obtain ⟨o, ho⟩ : ∃ o : List Bs, o = [] := ⟨_, rfl⟩
        rw [show (AV.sl 1 Tok.full [] : AV) = .sl 1 .full (o.map srow) from by rw [ho]; rfl]
        rw [← ho] at hop2
        rw [hop2] at hw
        have hget : (walkP [] [] l).1[i]? = some o := by
          rw [hw, List.getElem?_append_right (by omega), hpre, Nat.sub_self]; rfl
        have hol : o.length ≤ cur.length := (openAt_some hop2).2.length_le
        refine wCallV_I (hv i _ o hil hget (by omega) (hoth _ _ _ _ (fun j hj => by simp [upd, show j ≠ k + 8 by omega, show j ≠ k + 10 by omega]) _)) ?_
        rintro r s ⟨hJ1, hkeep⟩ he
        obtain ⟨e2, g2, v2, tg2, tp2, x2⟩ := s
        simp only at he hkeep
        subst he
        have q2 := hkeep (k + 2) (by omega) (by omega)
        have q8 := hkeep (k + 8) (by omega) (by omega)
        have q10 := hkeep (k + 10) (by omega) (by omega)
        simp only [zl4,Nat.add_right_inj,Nat.reduceEqDiff,zo3,zo4] at q2 q8 q10
        obtain ⟨q2a, q2b, -, -⟩ := q2
        obtain ⟨q8a, q8b, -, -⟩ := q8
        obtain ⟨q10a, q10b, -, -⟩ := q10
        have fin : ∀ (cur' : List Bs) (y : AV) (e3 : Nat → AV) (tg3 : Nat → Nat) (tp3 : Nat → Option Nat), cur' = openNext o a → y.le (.sl 1 .ro (cur'.map srow)) → e3 1 = .fv gv [] caps → e3 2 = .ptr (k + 2) (g2 (k + 2)) 0 → e3 12 = .sl 7 .ro (l.map Item.row) → e3 13 = .imm (.int .i64 l.length) → e3 14 = .imm (.int .i64 (IntKind.i64.wrap ((i : Int) + 1))) → e3 5 = .mp (k + 10) (g2 (k + 10)) → e3 6 = y → (∀ j, (j < k ∨ k + 62 ≤ j) → tg3 j = tg2 j ∧ tp3 j = tp2 j) →
            ∃ s'' n', Weak ⟨e3, g2, v2, tg3, tp3, x2⟩ s'' ∧ n' < n ∧ ∃ i : Nat, i + n' = l.length ∧ s''.env 1 = .fv gv [] caps ∧ s''.env 2 = .ptr (k + 2) (s''.gen (k + 2)) 0 ∧ 1 ≤ s''.gen (k + 2) ∧ s''.var (k + 2) = [.sl 7 .ro (l.map Item.row)] ∧
              s''.env 12 = .sl 7 .ro (l.map Item.row) ∧ s''.env 13 = .imm (.int .i64 l.length) ∧ s''.env 14 = .imm (.int .i64 i) ∧ J i s'' ∧ s''.env 5 = .mp (k + 10) (s''.gen (k + 10)) ∧
              ∃ seen cur, s''.var (k + 10) = seen.map seenRow ∧ s''.env 6 = .sl 1 .ro (cur.map srow) ∧ cur.length ≤ i ∧ ∃ pre, pre.length = i ∧ walkP [] [] l = (pre ++ (walkP seen cur (l.drop i)).1, (walkP seen cur (l.drop i)).2) := by
          rintro cur' y e3 tg3 tp3 rfl hle f1 f2 f12 f13 f14 f5 f6 ht
          refine ⟨_, n - 1, Weak.slot 6 (.sl 1 .ro ((openNext o a).map srow)) (by rw [f6]; exact hle), by omega, i + 1, by omega, ?_, ?_, ?_, ?_, ?_, ?_, ?_, ?_, ?_, seen ++ [a.id], openNext o a, ?_, ?_, ?_, pre ++ [o], by simp [hpre], ?_⟩
          · simp [upd, f1]
          · simp [upd, f2]
          · show 1 ≤ g2 (k + 2); rw [q2a]; exact h2g
          · show v2 (k + 2) = _; rw [q2b]; exact h2v
          · simp [upd, f12]
          · simp [upd, f13]
          · simp only [upd,f14]
            rw [IntWalk.i64_in _ (by omega)]; rfl
          · refine hst (i + 1) _ _ ?_ hJ1
            exact ⟨rfl, fun j hj => ⟨rfl, rfl, (ht j hj).1, (ht j hj).2⟩⟩
          · simp [upd, f5]
          · show v2 (k + 10) = _; rw [q10b]
          · simp [upd]
          · unfold openNext
            split <;> (try simp) <;> omega
          · rw [hw, walkP_perm _ (seen ++ [a.id]) (a.id :: seen) _ (fun y => by simp [or_comm])]
            simp
        simp -implicitDefEqProofs only [k1,k2,k12,k13,k14,k5,k6,k7,k8,q8a,q8b,Nat.add_right_inj,za0,za1,za2,za3,za4,eff,AV.ptrOf,AV.tokOf,za5,za6,AV.weaks,AV.weak1,za7,za8,za9,zb0,zb1,zb2,zb3,zb4,zb5,zb6,zb7,zb8,zb9,zc0,zc1,zc2,zc3,zc4,zc5,zc6,zc7,zc8,zc9,zd0,zd1,zd2,zd3,zd4,zd5,zd6,zd7,zd8,zd9,ze0,ze1,ze2,ze3,ze4,ze5,ze6,ze7,ze8,ze9,zf0,zf1,zf2,zf3,zf4,zf5,zf6,zf7,zf8,zf9,zg0,zg1,zg2,zg3,zg4,zg5,zg6,zg7,zg8,zg9,zh0,zh1,zh2,zh3,zh4,zh5,zh6,zh7,zh8,zh9,zi0,zi1,zi2,zi3,zi4,zi5,zi6,wSnil,zi7,zi8,zi9,zj0,zj1,zj2,zj3,zj4,zj5,zj6,zj7,zj8,AV.flatB,AV.flatBs,zj9,zk0,zk1,zk2,zk3,zk4,zk5,zk6,act,AV.cells,AV.mk,AV.asSl,AV.asInt,AV.vslOf,wIdx,zk7,zk8,zk9,zl0,zl1,zl2,zl3,st0,env0,zl4,zl5,zl6,Nat.reduceAdd,Nat.reduceEqDiff,Nat.reduceLeDiff,↓reduceIte,AV.ofV,unV,← decide_not,zl7,zl8,zl9,zm0,zm1,zm2,zm3,zm4,zm5,zm6,zm7,zm8,zm9,zn0,zn1,zn2,zn3,zn4,zn5,zn6,zn7,reduceCtorEq,rowsOf,pureCells,AV.weak,AV.pureB,AV.pureBs,zn8,zn9,zo0,zo1,zo2,Nat.reduceBEq,zo3,zo4,zo5,zo6,zo7,zo8,zo9,zp0,zp1]
        refine ⟨fun hk => ?_, fun hk => ?_⟩
        · refine wApp_full (by simp; omega) ?_
          simp -implicitDefEqProofs only [k1,k2,k12,k13,k14,k5,k6,k7,k8,q8a,q8b,Nat.add_right_inj,za0,za1,za2,za3,za4,eff,AV.ptrOf,AV.tokOf,za5,za6,AV.weaks,AV.weak1,za7,za8,za9,zb0,zb1,zb2,zb3,zb4,zb5,zb6,zb7,zb8,zb9,zc0,zc1,zc2,zc3,zc4,zc5,zc6,zc7,zc8,zc9,zd0,zd1,zd2,zd3,zd4,zd5,zd6,zd7,zd8,zd9,ze0,ze1,ze2,ze3,ze4,ze5,ze6,ze7,ze8,ze9,zf0,zf1,zf2,zf3,zf4,zf5,zf6,zf7,zf8,zf9,zg0,zg1,zg2,zg3,zg4,zg5,zg6,zg7,zg8,zg9,zh0,zh1,zh2,zh3,zh4,zh5,zh6,zh7,zh8,zh9,zi0,zi1,zi2,zi3,zi4,zi5,zi6,wSnil,zi7,zi8,zi9,zj0,zj1,zj2,zj3,zj4,zj5,zj6,zj7,zj8,AV.flatB,AV.flatBs,zj9,zk0,zk1,zk2,zk3,zk4,zk5,zk6,act,AV.cells,AV.mk,AV.asSl,AV.asInt,AV.vslOf,wIdx,zk7,zk8,zk9,zl0,zl1,zl2,zl3,st0,env0,zl4,zl5,zl6,Nat.reduceAdd,Nat.reduceEqDiff,Nat.reduceLeDiff,↓reduceIte,AV.ofV,unV,← decide_not,zl7,zl8,zl9,zm0,zm1,zm2,zm3,zm4,zm5,zm6,zm7,zm8,zm9,zn0,zn1,zn2,zn3,zn4,zn5,zn6,zn7,reduceCtorEq,rowsOf,pureCells,AV.weak,AV.pureB,AV.pureBs,zn8,zn9,zo0,zo1,zo2,Nat.reduceBEq,zo3,zo4,zo5,zo6,zo7,zo8,zo9,zp0,zp1]
          refine fin (openNext o a) (.sl 1 (.own (k + 56) (tg2 (k + 56) + 1)) (o.map srow ++ [[.imm (.string a.id)]])) _ _ _ rfl ?_ (by simp [upd, k1]) (by simp [upd, k2, q2a]) (by simp [upd, k12]) (by simp [upd, k13]) (by simp [upd, k14]) (by simp [upd, k5, q10a]) (by simp [upd]) (fun j hj => by simp [upd, show j ≠ k + 56 by omega])
          simp only [openNext,hk,zo3,List.map_append,zn5,zn6,srow]
          simp [AV.le, AV.le2, AV.le1]
        · refine fin (openNext o a) (.sl 1 .full (o.map srow)) _ _ _ rfl ?_ (by simp [upd, k1]) (by simp [upd, k2, q2a]) (by simp [upd, k12]) (by simp [upd, k13]) (by simp [upd, k14]) (by simp [upd, k5, q10a]) (by simp [upd]) (fun j hj => ⟨rfl, rfl⟩)
          simp only [openNext,hk,zo4]
          simp [AV.le, AV.le2, AV.le1]
    · have hge' : l.drop i = [] := List.drop_of_length_le (by omega)
      rw [hge'] at hwalk
      have hiff : (l.length : Int) ≤ 2000 ↔ ValidC l := by
        unfold ValidC
        rw [hwalk]
        simp [walkP]
        omega
      simp -implicitDefEqProofs only [h1,h2,h2g,h2v,c_code_walk,za0,za1,za2,za3,za4,eff,AV.ptrOf,AV.tokOf,za5,za6,AV.weaks,AV.weak1,za7,za8,za9,zb0,zb1,zb2,zb3,zb4,zb5,zb6,zb7,zb8,zb9,zc0,zc1,zc2,zc3,zc4,zc5,zc6,zc7,zc8,zc9,zd0,zd1,zd2,zd3,zd4,zd5,zd6,zd7,zd8,zd9,ze0,ze1,ze2,ze3,ze4,ze5,ze6,ze7,ze8,ze9,zf0,zf1,zf2,zf3,zf4,zf5,zf6,zf7,zf8,zf9,zg0,zg1,zg2,zg3,zg4,zg5,zg6,zg7,zg8,zg9,zh0,zh1,zh2,zh3,zh4,zh5,zh6,zh7,zh8,zh9,zi0,zi1,zi2,zi3,zi4,zi5,zi6,wSnil,zi7,zi8,zi9,zj0,zj1,zj2,zj3,zj4,zj5,zj6,zj7,zj8,AV.flatB,AV.flatBs,zj9,zk0,zk1,zk2,zk3,zk4,zk5,zk6,act,AV.cells,AV.mk,AV.asSl,AV.asInt,AV.vslOf,wIdx,zk7,zk8,zk9,zl0,zl1,zl2,zl3,st0,env0,zl4,zl5,zl6,Nat.reduceAdd,Nat.reduceEqDiff,Nat.reduceLeDiff,↓reduceIte,AV.ofV,unV,← decide_not,zl7,zl8,zl9,zm0,zm1,zm2,zm3,zm4,zm5,zm6,zm7,zm8,zm9,zn0,zn1,zn2,zn3,zn4,zn5,zn6,zn7,reduceCtorEq,rowsOf,pureCells,AV.weak,AV.pureB,AV.pureBs,zn8,zn9,zo0,zo1,zo2,Nat.reduceBEq,zo3,zo4,zo5,zo6,zo7,zo8,zo9,zp0,zp1,zp2,zp3,zp4,zp5,zp6,zp7,zp8,zp9,zq0,zq1,zq9]
      refine ⟨b_d hiff, i, ?_, fun _ => by omega⟩
      exact hst i ⟨e, g, v, tg, tp, x⟩ _ ⟨rfl, fun j hj => ⟨rfl, rfl, rfl, rfl⟩⟩ hJ
end Go.Av

namespace Go.Av
variable {P : Program} {T : List Nat} {σ : Type}
theorem valid_con (L : Lay P T) (V : StrLib P T) (l : List Item) (hl : l.length ≤ 1048576) (hid : Fit l) : Con P T 47 [.agg [.sl 7 .ro (l.map Item.row)]] (.imm (.bool (decide (ValidC l)))) := by
  refine Con_of nul L.t_code_Valid [] [] (by exact Nat.le_of_ble_eq_true rfl) ?_
  change wCode _ (b_code_Valid (T.getD · 0)) _ _ _ _
  simp -implicitDefEqProofs only [b_code_Valid,za0,za1,za2,za3,za4,eff,AV.ptrOf,AV.tokOf,za5,za6,AV.weaks,AV.weak1,za7,za8,za9,zb0,zb1,zb2,zb3,zb4,zb5,zb6,zb7,zb8,zb9,zc0,zc1,zc2,zc3,zc4,zc5,zc6,zc7,zc8,zc9,zd0,zd1,zd2,zd3,zd4,zd5,zd6,zd7,zd8,zd9,ze0,ze1,ze2,ze3,ze4,ze5,ze6,ze7,ze8,ze9,zf0,zf1,zf2,zf3,zf4,zf5,zf6,zf7,zf8,zf9,zg0,zg1,zg2,zg3,zg4,zg5,zg6,zg7,zg8,zg9,zh0,zh1,zh2,zh3,zh4,zh5,zh6,zh7,zh8,zh9,zi0,zi1,zi2,zi3,zi4,zi5,zi6,wSnil,zi7,zi8,zi9,zj0,zj1,zj2,zj3,zj4,zj5,zj6,zj7,zj8,AV.flatB,AV.flatBs,zj9,zk0,zk1,zk2,zk3,zk4,zk5,zk6,act,AV.cells,AV.mk,AV.asSl,AV.asInt,AV.vslOf,wIdx,zk7,zk8,zk9,zl0,zl1,zl2,zl3,st0,env0,zl4,zl5,zl6,Nat.reduceAdd,Nat.reduceEqDiff,Nat.reduceLeDiff,↓reduceIte,AV.ofV,unV,← decide_not,zl7,zl8,zl9,zm0,zm1,zm2,zm3,zm4,zm5,zm6,zm7,zm8,zm9,zn0,zn1,zn2,zn3,zn4,zn5,zn6,zn7,reduceCtorEq,rowsOf,pureCells,AV.weak,AV.pureB,AV.pureBs,zn8,zn9,zo0,zo1,zo2,Nat.reduceBEq,zo3,zo4,zo5,zo6,zo7,zo8,zo9,zp0,zp1]
  refine wCall_I (walk_I L V 100 l hl hid (T.getD 75 0) [] (fun _ _ => True) trivial (fun _ _ _ _ h => h) ?_) ?_
  · intro i s o _ _ _ _
    refine IV_of L.t_code_Valid_d1 (by have := L.len; omega) 200 [] [] (by exact Nat.le_of_ble_eq_true rfl) ?_
    show wCode _ b_code_Valid_d1 _ _ _ _
    obtain ⟨e, g, v, tg, tp, x⟩ := s
    simp -implicitDefEqProofs only [b_code_Valid_d1,c_code_Valid_d1,za0,za1,za2,za3,za4,eff,AV.ptrOf,AV.tokOf,za5,za6,AV.weaks,AV.weak1,za7,za8,za9,zb0,zb1,zb2,zb3,zb4,zb5,zb6,zb7,zb8,zb9,zc0,zc1,zc2,zc3,zc4,zc5,zc6,zc7,zc8,zc9,zd0,zd1,zd2,zd3,zd4,zd5,zd6,zd7,zd8,zd9,ze0,ze1,ze2,ze3,ze4,ze5,ze6,ze7,ze8,ze9,zf0,zf1,zf2,zf3,zf4,zf5,zf6,zf7,zf8,zf9,zg0,zg1,zg2,zg3,zg4,zg5,zg6,zg7,zg8,zg9,zh0,zh1,zh2,zh3,zh4,zh5,zh6,zh7,zh8,zh9,zi0,zi1,zi2,zi3,zi4,zi5,zi6,wSnil,zi7,zi8,zi9,zj0,zj1,zj2,zj3,zj4,zj5,zj6,zj7,zj8,AV.flatB,AV.flatBs,zj9,zk0,zk1,zk2,zk3,zk4,zk5,zk6,act,AV.cells,AV.mk,AV.asSl,AV.asInt,AV.vslOf,wIdx,zk7,zk8,zk9,zl0,zl1,zl2,zl3,st0,env0,zl4,zl5,zl6,Nat.reduceAdd,Nat.reduceEqDiff,Nat.reduceLeDiff,↓reduceIte,AV.ofV,unV,← decide_not,zl7,zl8,zl9,zm0,zm1,zm2,zm3,zm4,zm5,zm6,zm7,zm8,zm9,zn0,zn1,zn2,zn3,zn4,zn5,zn6,zn7,reduceCtorEq,rowsOf,pureCells,AV.weak,AV.pureB,AV.pureBs,zn8,zn9,zo0,zo1,zo2,Nat.reduceBEq,zo3,zo4,zo5,zo6,zo7,zo8,zo9,zp0,zp1,zp2,zp3,zp4,zp5,zp6,zp7,zp8,zp9,zq0,zq1]
    simp
  · rintro _ s ⟨rfl, _⟩ he
    obtain ⟨e, g, v, tg, tp, x⟩ := s
    simp only at he
    subst he
    simp -implicitDefEqProofs only [c_code_Valid,za0,za1,za2,za3,za4,eff,AV.ptrOf,AV.tokOf,za5,za6,AV.weaks,AV.weak1,za7,za8,za9,zb0,zb1,zb2,zb3,zb4,zb5,zb6,zb7,zb8,zb9,zc0,zc1,zc2,zc3,zc4,zc5,zc6,zc7,zc8,zc9,zd0,zd1,zd2,zd3,zd4,zd5,zd6,zd7,zd8,zd9,ze0,ze1,ze2,ze3,ze4,ze5,ze6,ze7,ze8,ze9,zf0,zf1,zf2,zf3,zf4,zf5,zf6,zf7,zf8,zf9,zg0,zg1,zg2,zg3,zg4,zg5,zg6,zg7,zg8,zg9,zh0,zh1,zh2,zh3,zh4,zh5,zh6,zh7,zh8,zh9,zi0,zi1,zi2,zi3,zi4,zi5,zi6,wSnil,zi7,zi8,zi9,zj0,zj1,zj2,zj3,zj4,zj5,zj6,zj7,zj8,AV.flatB,AV.flatBs,zj9,zk0,zk1,zk2,zk3,zk4,zk5,zk6,act,AV.cells,AV.mk,AV.asSl,AV.asInt,AV.vslOf,wIdx,zk7,zk8,zk9,zl0,zl1,zl2,zl3,st0,env0,zl4,zl5,zl6,Nat.reduceAdd,Nat.reduceEqDiff,Nat.reduceLeDiff,↓reduceIte,AV.ofV,unV,← decide_not,zl7,zl8,zl9,zm0,zm1,zm2,zm3,zm4,zm5,zm6,zm7,zm8,zm9,zn0,zn1,zn2,zn3,zn4,zn5,zn6,zn7,reduceCtorEq,rowsOf,pureCells,AV.weak,AV.pureB,AV.pureBs,zn8,zn9,zo0,zo1,zo2,Nat.reduceBEq,zo3,zo4,zo5,zo6,zo7,zo8,zo9,zp0,zp1,zp2,zp3,zp4,zp5,zp6,zp7,zp8,zp9,zq0,zq1]
/-- What Below's visitor has done. -/
structure BelowJ (l : List Item) (os : List (List Bs)) (id : Bs) (i : Nat) (s : St Unit) : Prop where
  g2 : s.gen 2 = 1
  v2 : s.var 2 = [.sl 7 .ro (l.map Item.row)]
  g3 : s.gen 3 = 1
  v3 : s.var 3 = [.imm (.string id)]
  g5 : s.gen 5 = 1
  v5 : ∃ y, s.var 5 = [y] ∧ OwnSl s y 218 1 ((pickS id (l.take i) (os.take i)).map srow)
  len : i ≤ l.length
theorem pick_succ {id : Bs} : ∀ {l : List Item} {os : List (List Bs)} {i : Nat} {x : Item} {o : List Bs}, l[i]? = some x → os[i]? = some o → pickS id (l.take (i + 1)) (os.take (i + 1)) = pickS id (l.take i) (os.take i) ++ (if id ∈ o then [x.id] else [])
  | [], _, _, _, _, h, _ => by simp at h
  | _ :: _, [], _, _, _, _, h => by simp at h
  | y :: l, p :: os, 0, x, o, h1, h2 => by
    simp at h1 h2
    subst h1 h2
    simp [pickS]
  | y :: l, p :: os, i + 1, x, o, h1, h2 => by
    have ih := pick_succ (id := id) (i := i) (by simpa using h1) (by simpa using h2)
    simp only [zn1,pickS] at ih ⊢
    rw [ih]
    split <;> simp
theorem pick_len {id : Bs} : ∀ (l : List Item) (os : List (List Bs)), (pickS id l os).length ≤ l.length
  | [], _ => by simp [pickS]
  | _ :: _, [] => by simp [pickS]
  | x :: l, o :: os => by
    have := pick_len (id := id) l os
    simp only [pickS]
    split <;> simp <;> omega
theorem below_con (L : Lay P T) (V : StrLib P T) (l : List Item) (id : Bs) (hl : l.length ≤ 1048576) (hid : Fit l) : Con P T 49 [.agg [.sl 7 .ro (l.map Item.row)], .imm (.string id)] (.sl 1 .ro ((belowS l id).map srow)) := by
  refine Con_of nul L.t_code_Below [] [] (by exact Nat.le_of_ble_eq_true rfl) ?_
  change wCode _ (b_code_Below (T.getD · 0)) _ _ _ _
  simp -implicitDefEqProofs only [b_code_Below,za0,za1,za2,za3,za4,eff,AV.ptrOf,AV.tokOf,za5,za6,AV.weaks,AV.weak1,za7,za8,za9,zb0,zb1,zb2,zb3,zb4,zb5,zb6,zb7,zb8,zb9,zc0,zc1,zc2,zc3,zc4,zc5,zc6,zc7,zc8,zc9,zd0,zd1,zd2,zd3,zd4,zd5,zd6,zd7,zd8,zd9,ze0,ze1,ze2,ze3,ze4,ze5,ze6,ze7,ze8,ze9,zf0,zf1,zf2,zf3,zf4,zf5,zf6,zf7,zf8,zf9,zg0,zg1,zg2,zg3,zg4,zg5,zg6,zg7,zg8,zg9,zh0,zh1,zh2,zh3,zh4,zh5,zh6,zh7,zh8,zh9,zi0,zi1,zi2,zi3,zi4,zi5,zi6,wSnil,zi7,zi8,zi9,zj0,zj1,zj2,zj3,zj4,zj5,zj6,zj7,zj8,AV.flatB,AV.flatBs,zj9,zk0,zk1,zk2,zk3,zk4,zk5,zk6,act,AV.cells,AV.mk,AV.asSl,AV.asInt,AV.vslOf,wIdx,zk7,zk8,zk9,zl0,zl1,zl2,zl3,st0,env0,zl4,zl5,zl6,Nat.reduceAdd,Nat.reduceEqDiff,Nat.reduceLeDiff,↓reduceIte,AV.ofV,unV,← decide_not,zl7,zl8,zl9,zm0,zm1,zm2,zm3,zm4,zm5,zm6,zm7,zm8,zm9,zn0,zn1,zn2,zn3,zn4,zn5,zn6,zn7,reduceCtorEq,rowsOf,pureCells,AV.weak,AV.pureB,AV.pureBs,zn8,zn9,zo0,zo1,zo2,Nat.reduceBEq,zo3,zo4,zo5,zo6,zo7,zo8,zo9,zp0,zp1]
  refine wCall_I (walk_I L V 100 l hl hid (T.getD 78 0) [.ptr 3 1 0, .ptr 5 1 0, .ptr 2 1 0] (BelowJ l (walkP [] [] l).1 id) ?_ ?_ ?_) ?_
  · exact ⟨by simp [upd], by simp [upd], by simp [upd], by simp [upd], by simp [upd], ⟨.imm (.slice none 0 0), by simp [upd], .inl ⟨rfl, by simp [pickS]⟩⟩, Nat.zero_le _⟩
  · rintro i s s' ⟨_, ho⟩ ⟨a1, a2, a3, a4, a5, ⟨y, a6, a7⟩, a8⟩
    obtain ⟨b1, b2, _, _⟩ := ho 2 (by omega)
    obtain ⟨c1, c2, _, _⟩ := ho 3 (by omega)
    obtain ⟨d1, d2, _, _⟩ := ho 5 (by omega)
    obtain ⟨_, _, e1, e2⟩ := ho 218 (by omega)
    exact ⟨b1.trans a1, b2.trans a2, c1.trans a3, c2.trans a4, d1.trans a5, ⟨y, d2.trans a6, a7.keep e1 e2⟩, a8⟩
  · rintro i ⟨e, g, v, tg, tp, x⟩ o hi ho hol ⟨a1, a2, a3, a4, a5, ⟨y, a6, a7⟩, a8⟩
    simp only at a1 a2 a3 a4 a5 a6
    refine IV_of L.t_code_Below_d1 (by have := L.len; omega) 200 [] [] (by exact Nat.le_of_ble_eq_true rfl) ?_
    show wCode _ b_code_Below_d1 _ _ _ _
    simp -implicitDefEqProofs only [b_code_Below_d1,a1,a2,a3,a4,a5,a6,za0,za1,za2,za3,za4,eff,AV.ptrOf,AV.tokOf,za5,za6,AV.weaks,AV.weak1,za7,za8,za9,zb0,zb1,zb2,zb3,zb4,zb5,zb6,zb7,zb8,zb9,zc0,zc1,zc2,zc3,zc4,zc5,zc6,zc7,zc8,zc9,zd0,zd1,zd2,zd3,zd4,zd5,zd6,zd7,zd8,zd9,ze0,ze1,ze2,ze3,ze4,ze5,ze6,ze7,ze8,ze9,zf0,zf1,zf2,zf3,zf4,zf5,zf6,zf7,zf8,zf9,zg0,zg1,zg2,zg3,zg4,zg5,zg6,zg7,zg8,zg9,zh0,zh1,zh2,zh3,zh4,zh5,zh6,zh7,zh8,zh9,zi0,zi1,zi2,zi3,zi4,zi5,zi6,wSnil,zi7,zi8,zi9,zj0,zj1,zj2,zj3,zj4,zj5,zj6,zj7,zj8,AV.flatB,AV.flatBs,zj9,zk0,zk1,zk2,zk3,zk4,zk5,zk6,act,AV.cells,AV.mk,AV.asSl,AV.asInt,AV.vslOf,wIdx,zk7,zk8,zk9,zl0,zl1,zl2,zl3,st0,env0,zl4,zl5,zl6,Nat.reduceAdd,Nat.reduceEqDiff,Nat.reduceLeDiff,↓reduceIte,AV.ofV,unV,← decide_not,zl7,zl8,zl9,zm0,zm1,zm2,zm3,zm4,zm5,zm6,zm7,zm8,zm9,zn0,zn1,zn2,zn3,zn4,zn5,zn6,zn7,reduceCtorEq,rowsOf,pureCells,AV.weak,AV.pureB,AV.pureBs,zn8,zn9,zo0,zo1,zo2,Nat.reduceBEq,zo3,zo4,zo5,zo6,zo7,zo8,zo9,zp0,zp1]
    obtain ⟨a, ha⟩ : ∃ a, l[i]? = some a := ⟨_, List.getElem?_eq_getElem hi⟩
    refine wCall_imm (scontains_con L o id (by omega)) rfl ?_ ?_
    · simp [AV.les2, AV.weaks, AV.weak1, AV.weak, AV.le2, AV.le1]
    have hpk := pick_succ (id := id) ha ho
    have hlen := pick_len (id := id) (l.take i) ((walkP [] [] l).1.take i)
    rw [List.length_take] at hlen
    have fin : ∀ (v' : Nat → List AV) (tg' : Nat → Nat) (tp' : Nat → Option Nat) (y' : AV), v' 2 = v 2 → v' 3 = v 3 → v' 5 = [y'] → OwnSl ⟨e, g, v', tg', tp', x⟩ y' 218 1 ((pickS id (l.take (i + 1)) ((walkP [] [] l).1.take (i + 1))).map srow) → (∀ j, 100 ≤ j → j < 162 → v' j = v j ∧ tg' j = tg j ∧ tp' j = tp j) → BelowJ l (walkP [] [] l).1 id (i + 1) ⟨e, g, v', tg', tp', x⟩ ∧ ∀ j, 100 ≤ j → j < 100 + 62 → g j = g j ∧ v' j = v j ∧ tg' j = tg j ∧ tp' j = tp j :=
      fun v' tg' tp' y' f2 f3 f5 f6 f7 => ⟨⟨a1, f2.trans a2, a3, f3.trans a4, a5, ⟨y', f5, f6⟩, by show i + 1 ≤ _; omega⟩, fun j h1 h2 => ⟨rfl, f7 j h1 (by omega)⟩⟩
    by_cases hm : id ∈ o
    · rcases a7 with ⟨rfl, hr⟩ | ⟨rfl, hr⟩ | ⟨rfl, ht⟩
      all_goals
        simp -implicitDefEqProofs only [hm,a1,a2,a3,a4,a5,a6,za0,za1,za2,za3,za4,eff,AV.ptrOf,AV.tokOf,za5,za6,AV.weaks,AV.weak1,za7,za8,za9,zb0,zb1,zb2,zb3,zb4,zb5,zb6,zb7,zb8,zb9,zc0,zc1,zc2,zc3,zc4,zc5,zc6,zc7,zc8,zc9,zd0,zd1,zd2,zd3,zd4,zd5,zd6,zd7,zd8,zd9,ze0,ze1,ze2,ze3,ze4,ze5,ze6,ze7,ze8,ze9,zf0,zf1,zf2,zf3,zf4,zf5,zf6,zf7,zf8,zf9,zg0,zg1,zg2,zg3,zg4,zg5,zg6,zg7,zg8,zg9,zh0,zh1,zh2,zh3,zh4,zh5,zh6,zh7,zh8,zh9,zi0,zi1,zi2,zi3,zi4,zi5,zi6,wSnil,zi7,zi8,zi9,zj0,zj1,zj2,zj3,zj4,zj5,zj6,zj7,zj8,AV.flatB,AV.flatBs,zj9,zk0,zk1,zk2,zk3,zk4,zk5,zk6,act,AV.cells,AV.mk,AV.asSl,AV.asInt,AV.vslOf,wIdx,zk7,zk8,zk9,zl0,zl1,zl2,zl3,st0,env0,zl4,zl5,zl6,Nat.reduceAdd,Nat.reduceEqDiff,Nat.reduceLeDiff,↓reduceIte,AV.ofV,unV,← decide_not,zl7,zl8,zl9,zm0,zm1,zm2,zm3,zm4,zm5,zm6,zm7,zm8,zm9,zn0,zn1,zn2,zn3,zn4,zn5,zn6,zn7,reduceCtorEq,rowsOf,pureCells,AV.weak,AV.pureB,AV.pureBs,zn8,zn9,zo0,zo1,zo2,Nat.reduceBEq,zo3,zo4,zo5,zo6,zo7,zo8,zo9,zp0,zp1,zq9,zr1,zr2,zr3,and_imp,zr4,zr0,Item.row]
        refine ⟨fun _ => ⟨⟨by omega, by omega⟩, fun a' ha' => ?_⟩, fun h => absurd trivial h⟩
        rw [ha] at ha'
        injection ha' with ha'
        subst ha'
      · refine wApp_own (rows := ([] : List (List AV))) (.inl ⟨rfl, rfl⟩) rfl (by simp) ?_
        simp -implicitDefEqProofs only [a1,a2,a3,a4,a5,a6,za0,za1,za2,za3,za4,eff,AV.ptrOf,AV.tokOf,za5,za6,AV.weaks,AV.weak1,za7,za8,za9,zb0,zb1,zb2,zb3,zb4,zb5,zb6,zb7,zb8,zb9,zc0,zc1,zc2,zc3,zc4,zc5,zc6,zc7,zc8,zc9,zd0,zd1,zd2,zd3,zd4,zd5,zd6,zd7,zd8,zd9,ze0,ze1,ze2,ze3,ze4,ze5,ze6,ze7,ze8,ze9,zf0,zf1,zf2,zf3,zf4,zf5,zf6,zf7,zf8,zf9,zg0,zg1,zg2,zg3,zg4,zg5,zg6,zg7,zg8,zg9,zh0,zh1,zh2,zh3,zh4,zh5,zh6,zh7,zh8,zh9,zi0,zi1,zi2,zi3,zi4,zi5,zi6,wSnil,zi7,zi8,zi9,zj0,zj1,zj2,zj3,zj4,zj5,zj6,zj7,zj8,AV.flatB,AV.flatBs,zj9,zk0,zk1,zk2,zk3,zk4,zk5,zk6,act,AV.cells,AV.mk,AV.asSl,AV.asInt,AV.vslOf,wIdx,zk7,zk8,zk9,zl0,zl1,zl2,zl3,st0,env0,zl4,zl5,zl6,Nat.reduceAdd,Nat.reduceEqDiff,Nat.reduceLeDiff,↓reduceIte,AV.ofV,unV,← decide_not,zl7,zl8,zl9,zm0,zm1,zm2,zm3,zm4,zm5,zm6,zm7,zm8,zm9,zn0,zn1,zn2,zn3,zn4,zn5,zn6,zn7,reduceCtorEq,rowsOf,pureCells,AV.weak,AV.pureB,AV.pureBs,zn8,zn9,zo0,zo1,zo2,Nat.reduceBEq,zo3,zo4,zo5,zo6,zo7,zo8,zo9,zp0,zp1]
        refine ⟨rfl, ?_⟩
        simp -implicitDefEqProofs only [c_code_Below_d1,za0,za1,za2,za3,za4,eff,AV.ptrOf,AV.tokOf,za5,za6,AV.weaks,AV.weak1,za7,za8,za9,zb0,zb1,zb2,zb3,zb4,zb5,zb6,zb7,zb8,zb9,zc0,zc1,zc2,zc3,zc4,zc5,zc6,zc7,zc8,zc9,zd0,zd1,zd2,zd3,zd4,zd5,zd6,zd7,zd8,zd9,ze0,ze1,ze2,ze3,ze4,ze5,ze6,ze7,ze8,ze9,zf0,zf1,zf2,zf3,zf4,zf5,zf6,zf7,zf8,zf9,zg0,zg1,zg2,zg3,zg4,zg5,zg6,zg7,zg8,zg9,zh0,zh1,zh2,zh3,zh4,zh5,zh6,zh7,zh8,zh9,zi0,zi1,zi2,zi3,zi4,zi5,zi6,wSnil,zi7,zi8,zi9,zj0,zj1,zj2,zj3,zj4,zj5,zj6,zj7,zj8,AV.flatB,AV.flatBs,zj9,zk0,zk1,zk2,zk3,zk4,zk5,zk6,act,AV.cells,AV.mk,AV.asSl,AV.asInt,AV.vslOf,wIdx,zk7,zk8,zk9,zl0,zl1,zl2,zl3,st0,env0,zl4,zl5,zl6,Nat.reduceAdd,Nat.reduceEqDiff,Nat.reduceLeDiff,↓reduceIte,AV.ofV,unV,← decide_not,zl7,zl8,zl9,zm0,zm1,zm2,zm3,zm4,zm5,zm6,zm7,zm8,zm9,zn0,zn1,zn2,zn3,zn4,zn5,zn6,zn7,reduceCtorEq,rowsOf,pureCells,AV.weak,AV.pureB,AV.pureBs,zn8,zn9,zo0,zo1,zo2,Nat.reduceBEq,zo3,zo4,zo5,zo6,zo7,zo8,zo9,zp0,zp1,zp2,zp3,zp4,zp5,zp6,zp7,zp8,zp9,zq0,zq1]
        have q := fin (upd v 5 (splice [.imm (.slice none 0 0)] 0 [.sl 1 (.own 218 (tg 218 + 1)) (([] : List (List AV)) ++ [[.imm (.string a.id)]])])) (upd tg 218 (tg 218 + 1)) (upd tp 218 (some (([] : List (List AV)).length + [[AV.imm (.string a.id)]].length))) (.sl 1 (.own 218 (tg 218 + 1)) (([] : List (List AV)) ++ [[.imm (.string a.id)]])) rfl rfl (by simp [upd, splice]) ?_ (fun j h1 h2 => by simp [upd, show j ≠ 5 by omega, show j ≠ 218 by omega])
        · simpa [upd] using q
        · rw [hpk, if_pos hm, List.map_append]
          rw [hr]
          exact .inr (.inr ⟨by simp [upd, srow], by simp [upd, srow]⟩)
      · refine wApp_own (rows := ([] : List (List AV))) (.inr (.inl ⟨rfl, rfl⟩)) rfl (by simp) ?_
        simp -implicitDefEqProofs only [a1,a2,a3,a4,a5,a6,za0,za1,za2,za3,za4,eff,AV.ptrOf,AV.tokOf,za5,za6,AV.weaks,AV.weak1,za7,za8,za9,zb0,zb1,zb2,zb3,zb4,zb5,zb6,zb7,zb8,zb9,zc0,zc1,zc2,zc3,zc4,zc5,zc6,zc7,zc8,zc9,zd0,zd1,zd2,zd3,zd4,zd5,zd6,zd7,zd8,zd9,ze0,ze1,ze2,ze3,ze4,ze5,ze6,ze7,ze8,ze9,zf0,zf1,zf2,zf3,zf4,zf5,zf6,zf7,zf8,zf9,zg0,zg1,zg2,zg3,zg4,zg5,zg6,zg7,zg8,zg9,zh0,zh1,zh2,zh3,zh4,zh5,zh6,zh7,zh8,zh9,zi0,zi1,zi2,zi3,zi4,zi5,zi6,wSnil,zi7,zi8,zi9,zj0,zj1,zj2,zj3,zj4,zj5,zj6,zj7,zj8,AV.flatB,AV.flatBs,zj9,zk0,zk1,zk2,zk3,zk4,zk5,zk6,act,AV.cells,AV.mk,AV.asSl,AV.asInt,AV.vslOf,wIdx,zk7,zk8,zk9,zl0,zl1,zl2,zl3,st0,env0,zl4,zl5,zl6,Nat.reduceAdd,Nat.reduceEqDiff,Nat.reduceLeDiff,↓reduceIte,AV.ofV,unV,← decide_not,zl7,zl8,zl9,zm0,zm1,zm2,zm3,zm4,zm5,zm6,zm7,zm8,zm9,zn0,zn1,zn2,zn3,zn4,zn5,zn6,zn7,reduceCtorEq,rowsOf,pureCells,AV.weak,AV.pureB,AV.pureBs,zn8,zn9,zo0,zo1,zo2,Nat.reduceBEq,zo3,zo4,zo5,zo6,zo7,zo8,zo9,zp0,zp1]
        refine ⟨rfl, ?_⟩
        simp -implicitDefEqProofs only [c_code_Below_d1,za0,za1,za2,za3,za4,eff,AV.ptrOf,AV.tokOf,za5,za6,AV.weaks,AV.weak1,za7,za8,za9,zb0,zb1,zb2,zb3,zb4,zb5,zb6,zb7,zb8,zb9,zc0,zc1,zc2,zc3,zc4,zc5,zc6,zc7,zc8,zc9,zd0,zd1,zd2,zd3,zd4,zd5,zd6,zd7,zd8,zd9,ze0,ze1,ze2,ze3,ze4,ze5,ze6,ze7,ze8,ze9,zf0,zf1,zf2,zf3,zf4,zf5,zf6,zf7,zf8,zf9,zg0,zg1,zg2,zg3,zg4,zg5,zg6,zg7,zg8,zg9,zh0,zh1,zh2,zh3,zh4,zh5,zh6,zh7,zh8,zh9,zi0,zi1,zi2,zi3,zi4,zi5,zi6,wSnil,zi7,zi8,zi9,zj0,zj1,zj2,zj3,zj4,zj5,zj6,zj7,zj8,AV.flatB,AV.flatBs,zj9,zk0,zk1,zk2,zk3,zk4,zk5,zk6,act,AV.cells,AV.mk,AV.asSl,AV.asInt,AV.vslOf,wIdx,zk7,zk8,zk9,zl0,zl1,zl2,zl3,st0,env0,zl4,zl5,zl6,Nat.reduceAdd,Nat.reduceEqDiff,Nat.reduceLeDiff,↓reduceIte,AV.ofV,unV,← decide_not,zl7,zl8,zl9,zm0,zm1,zm2,zm3,zm4,zm5,zm6,zm7,zm8,zm9,zn0,zn1,zn2,zn3,zn4,zn5,zn6,zn7,reduceCtorEq,rowsOf,pureCells,AV.weak,AV.pureB,AV.pureBs,zn8,zn9,zo0,zo1,zo2,Nat.reduceBEq,zo3,zo4,zo5,zo6,zo7,zo8,zo9,zp0,zp1,zp2,zp3,zp4,zp5,zp6,zp7,zp8,zp9,zq0,zq1]
        have q := fin (upd v 5 (splice [.sl 1 .full []] 0 [.sl 1 (.own 218 (tg 218 + 1)) (([] : List (List AV)) ++ [[.imm (.string a.id)]])])) (upd tg 218 (tg 218 + 1)) (upd tp 218 (some (([] : List (List AV)).length + [[AV.imm (.string a.id)]].length))) (.sl 1 (.own 218 (tg 218 + 1)) (([] : List (List AV)) ++ [[.imm (.string a.id)]])) rfl rfl (by simp [upd, splice]) ?_ (fun j h1 h2 => by simp [upd, show j ≠ 5 by omega, show j ≠ 218 by omega])
        · simpa [upd] using q
        · rw [hpk, if_pos hm, List.map_append]
          rw [hr]
          exact .inr (.inr ⟨by simp [upd, srow], by simp [upd, srow]⟩)
      · refine wApp_own (rows := ((pickS id (l.take i) ((walkP [] [] l).1.take i)).map srow)) (.inr (.inr ⟨rfl, ht⟩)) rfl (by simp; omega) ?_
        simp -implicitDefEqProofs only [a1,a2,a3,a4,a5,a6,za0,za1,za2,za3,za4,eff,AV.ptrOf,AV.tokOf,za5,za6,AV.weaks,AV.weak1,za7,za8,za9,zb0,zb1,zb2,zb3,zb4,zb5,zb6,zb7,zb8,zb9,zc0,zc1,zc2,zc3,zc4,zc5,zc6,zc7,zc8,zc9,zd0,zd1,zd2,zd3,zd4,zd5,zd6,zd7,zd8,zd9,ze0,ze1,ze2,ze3,ze4,ze5,ze6,ze7,ze8,ze9,zf0,zf1,zf2,zf3,zf4,zf5,zf6,zf7,zf8,zf9,zg0,zg1,zg2,zg3,zg4,zg5,zg6,zg7,zg8,zg9,zh0,zh1,zh2,zh3,zh4,zh5,zh6,zh7,zh8,zh9,zi0,zi1,zi2,zi3,zi4,zi5,zi6,wSnil,zi7,zi8,zi9,zj0,zj1,zj2,zj3,zj4,zj5,zj6,zj7,zj8,AV.flatB,AV.flatBs,zj9,zk0,zk1,zk2,zk3,zk4,zk5,zk6,act,AV.cells,AV.mk,AV.asSl,AV.asInt,AV.vslOf,wIdx,zk7,zk8,zk9,zl0,zl1,zl2,zl3,st0,env0,zl4,zl5,zl6,Nat.reduceAdd,Nat.reduceEqDiff,Nat.reduceLeDiff,↓reduceIte,AV.ofV,unV,← decide_not,zl7,zl8,zl9,zm0,zm1,zm2,zm3,zm4,zm5,zm6,zm7,zm8,zm9,zn0,zn1,zn2,zn3,zn4,zn5,zn6,zn7,reduceCtorEq,rowsOf,pureCells,AV.weak,AV.pureB,AV.pureBs,zn8,zn9,zo0,zo1,zo2,Nat.reduceBEq,zo3,zo4,zo5,zo6,zo7,zo8,zo9,zp0,zp1]
        refine ⟨rfl, ?_⟩
        simp -implicitDefEqProofs only [c_code_Below_d1,za0,za1,za2,za3,za4,eff,AV.ptrOf,AV.tokOf,za5,za6,AV.weaks,AV.weak1,za7,za8,za9,zb0,zb1,zb2,zb3,zb4,zb5,zb6,zb7,zb8,zb9,zc0,zc1,zc2,zc3,zc4,zc5,zc6,zc7,zc8,zc9,zd0,zd1,zd2,zd3,zd4,zd5,zd6,zd7,zd8,zd9,ze0,ze1,ze2,ze3,ze4,ze5,ze6,ze7,ze8,ze9,zf0,zf1,zf2,zf3,zf4,zf5,zf6,zf7,zf8,zf9,zg0,zg1,zg2,zg3,zg4,zg5,zg6,zg7,zg8,zg9,zh0,zh1,zh2,zh3,zh4,zh5,zh6,zh7,zh8,zh9,zi0,zi1,zi2,zi3,zi4,zi5,zi6,wSnil,zi7,zi8,zi9,zj0,zj1,zj2,zj3,zj4,zj5,zj6,zj7,zj8,AV.flatB,AV.flatBs,zj9,zk0,zk1,zk2,zk3,zk4,zk5,zk6,act,AV.cells,AV.mk,AV.asSl,AV.asInt,AV.vslOf,wIdx,zk7,zk8,zk9,zl0,zl1,zl2,zl3,st0,env0,zl4,zl5,zl6,Nat.reduceAdd,Nat.reduceEqDiff,Nat.reduceLeDiff,↓reduceIte,AV.ofV,unV,← decide_not,zl7,zl8,zl9,zm0,zm1,zm2,zm3,zm4,zm5,zm6,zm7,zm8,zm9,zn0,zn1,zn2,zn3,zn4,zn5,zn6,zn7,reduceCtorEq,rowsOf,pureCells,AV.weak,AV.pureB,AV.pureBs,zn8,zn9,zo0,zo1,zo2,Nat.reduceBEq,zo3,zo4,zo5,zo6,zo7,zo8,zo9,zp0,zp1,zp2,zp3,zp4,zp5,zp6,zp7,zp8,zp9,zq0,zq1]
        have q := fin (upd v 5 (splice [.sl 1 (.own 218 (tg 218)) ((pickS id (l.take i) ((walkP [] [] l).1.take i)).map srow)] 0 [.sl 1 (.own 218 (tg 218 + 1)) (((pickS id (l.take i) ((walkP [] [] l).1.take i)).map srow) ++ [[.imm (.string a.id)]])])) (upd tg 218 (tg 218 + 1)) (upd tp 218 (some (((pickS id (l.take i) ((walkP [] [] l).1.take i)).map srow).length + [[AV.imm (.string a.id)]].length))) (.sl 1 (.own 218 (tg 218 + 1)) (((pickS id (l.take i) ((walkP [] [] l).1.take i)).map srow) ++ [[.imm (.string a.id)]])) rfl rfl (by simp [upd, splice]) ?_ (fun j h1 h2 => by simp [upd, show j ≠ 5 by omega, show j ≠ 218 by omega])
        · simpa [upd] using q
        · rw [hpk, if_pos hm, List.map_append]
          exact .inr (.inr ⟨by simp [upd, srow], by simp [upd, srow]⟩)
    · simp -implicitDefEqProofs only [hm,c_code_Below_d1,za0,za1,za2,za3,za4,eff,AV.ptrOf,AV.tokOf,za5,za6,AV.weaks,AV.weak1,za7,za8,za9,zb0,zb1,zb2,zb3,zb4,zb5,zb6,zb7,zb8,zb9,zc0,zc1,zc2,zc3,zc4,zc5,zc6,zc7,zc8,zc9,zd0,zd1,zd2,zd3,zd4,zd5,zd6,zd7,zd8,zd9,ze0,ze1,ze2,ze3,ze4,ze5,ze6,ze7,ze8,ze9,zf0,zf1,zf2,zf3,zf4,zf5,zf6,zf7,zf8,zf9,zg0,zg1,zg2,zg3,zg4,zg5,zg6,zg7,zg8,zg9,zh0,zh1,zh2,zh3,zh4,zh5,zh6,zh7,zh8,zh9,zi0,zi1,zi2,zi3,zi4,zi5,zi6,wSnil,zi7,zi8,zi9,zj0,zj1,zj2,zj3,zj4,zj5,zj6,zj7,zj8,AV.flatB,AV.flatBs,zj9,zk0,zk1,zk2,zk3,zk4,zk5,zk6,act,AV.cells,AV.mk,AV.asSl,AV.asInt,AV.vslOf,wIdx,zk7,zk8,zk9,zl0,zl1,zl2,zl3,st0,env0,zl4,zl5,zl6,Nat.reduceAdd,Nat.reduceEqDiff,Nat.reduceLeDiff,↓reduceIte,AV.ofV,unV,← decide_not,zl7,zl8,zl9,zm0,zm1,zm2,zm3,zm4,zm5,zm6,zm7,zm8,zm9,zn0,zn1,zn2,zn3,zn4,zn5,zn6,zn7,reduceCtorEq,rowsOf,pureCells,AV.weak,AV.pureB,AV.pureBs,zn8,zn9,zo0,zo1,zo2,Nat.reduceBEq,zo3,zo4,zo5,zo6,zo7,zo8,zo9,zp0,zp1,zp2,zp3,zp4,zp5,zp6,zp7,zp8,zp9,zq0,zq1]
      refine ⟨fun h => absurd h (by simp), fun _ => ?_⟩
      have q := fin v tg tp y rfl rfl a6 ?_ (fun j h1 h2 => ⟨rfl, rfl, rfl⟩)
      · simpa using q
      rw [hpk, if_neg hm, List.append_nil]
      exact a7
  · rintro _ ⟨e, g, v, tg, tp, x⟩ ⟨rfl, m, ⟨a1, a2, a3, a4, a5, ⟨y, a6, a7⟩, a8⟩, hm⟩ he
    simp only at a1 a2 a3 a4 a5 a6 he
    subst he
    simp -implicitDefEqProofs only [a1,a2,a3,a4,a5,a6,za0,za1,za2,za3,za4,eff,AV.ptrOf,AV.tokOf,za5,za6,AV.weaks,AV.weak1,za7,za8,za9,zb0,zb1,zb2,zb3,zb4,zb5,zb6,zb7,zb8,zb9,zc0,zc1,zc2,zc3,zc4,zc5,zc6,zc7,zc8,zc9,zd0,zd1,zd2,zd3,zd4,zd5,zd6,zd7,zd8,zd9,ze0,ze1,ze2,ze3,ze4,ze5,ze6,ze7,ze8,ze9,zf0,zf1,zf2,zf3,zf4,zf5,zf6,zf7,zf8,zf9,zg0,zg1,zg2,zg3,zg4,zg5,zg6,zg7,zg8,zg9,zh0,zh1,zh2,zh3,zh4,zh5,zh6,zh7,zh8,zh9,zi0,zi1,zi2,zi3,zi4,zi5,zi6,wSnil,zi7,zi8,zi9,zj0,zj1,zj2,zj3,zj4,zj5,zj6,zj7,zj8,AV.flatB,AV.flatBs,zj9,zk0,zk1,zk2,zk3,zk4,zk5,zk6,act,AV.cells,AV.mk,AV.asSl,AV.asInt,AV.vslOf,wIdx,zk7,zk8,zk9,zl0,zl1,zl2,zl3,st0,env0,zl4,zl5,zl6,Nat.reduceAdd,Nat.reduceEqDiff,Nat.reduceLeDiff,↓reduceIte,AV.ofV,unV,← decide_not,zl7,zl8,zl9,zm0,zm1,zm2,zm3,zm4,zm5,zm6,zm7,zm8,zm9,zn0,zn1,zn2,zn3,zn4,zn5,zn6,zn7,reduceCtorEq,rowsOf,pureCells,AV.weak,AV.pureB,AV.pureBs,zn8,zn9,zo0,zo1,zo2,Nat.reduceBEq,zo3,zo4,zo5,zo6,zo7,zo8,zo9,zp0,zp1]
    refine ⟨fun hn => ?_, fun hv => ?_⟩
    · simp -implicitDefEqProofs only [c_code_Below,za0,za1,za2,za3,za4,eff,AV.ptrOf,AV.tokOf,za5,za6,AV.weaks,AV.weak1,za7,za8,za9,zb0,zb1,zb2,zb3,zb4,zb5,zb6,zb7,zb8,zb9,zc0,zc1,zc2,zc3,zc4,zc5,zc6,zc7,zc8,zc9,zd0,zd1,zd2,zd3,zd4,zd5,zd6,zd7,zd8,zd9,ze0,ze1,ze2,ze3,ze4,ze5,ze6,ze7,ze8,ze9,zf0,zf1,zf2,zf3,zf4,zf5,zf6,zf7,zf8,zf9,zg0,zg1,zg2,zg3,zg4,zg5,zg6,zg7,zg8,zg9,zh0,zh1,zh2,zh3,zh4,zh5,zh6,zh7,zh8,zh9,zi0,zi1,zi2,zi3,zi4,zi5,zi6,wSnil,zi7,zi8,zi9,zj0,zj1,zj2,zj3,zj4,zj5,zj6,zj7,zj8,AV.flatB,AV.flatBs,zj9,zk0,zk1,zk2,zk3,zk4,zk5,zk6,act,AV.cells,AV.mk,AV.asSl,AV.asInt,AV.vslOf,wIdx,zk7,zk8,zk9,zl0,zl1,zl2,zl3,st0,env0,zl4,zl5,zl6,Nat.reduceAdd,Nat.reduceEqDiff,Nat.reduceLeDiff,↓reduceIte,AV.ofV,unV,← decide_not,zl7,zl8,zl9,zm0,zm1,zm2,zm3,zm4,zm5,zm6,zm7,zm8,zm9,zn0,zn1,zn2,zn3,zn4,zn5,zn6,zn7,reduceCtorEq,rowsOf,pureCells,AV.weak,AV.pureB,AV.pureBs,zn8,zn9,zo0,zo1,zo2,Nat.reduceBEq,zo3,zo4,zo5,zo6,zo7,zo8,zo9,zp0,zp1,zp2,zp3,zp4,zp5,zp6,zp7,zp8,zp9,zq0,zq1]
      rw [belowS, if_neg hn]
      exact OwnSl.le (d := 0) (.inl ⟨rfl, rfl⟩)
    · simp -implicitDefEqProofs only [c_code_Below,zp2,za0,za1,za2,za3,za4,eff,AV.ptrOf,AV.tokOf,za5,za6,AV.weaks,AV.weak1,za7,za8,za9,zb0,zb1,zb2,zb3,zb4,zb5,zb6,zb7,zb8,zb9,zc0,zc1,zc2,zc3,zc4,zc5,zc6,zc7,zc8,zc9,zd0,zd1,zd2,zd3,zd4,zd5,zd6,zd7,zd8,zd9,ze0,ze1,ze2,ze3,ze4,ze5,ze6,ze7,ze8,ze9,zf0,zf1,zf2,zf3,zf4,zf5,zf6,zf7,zf8,zf9,zg0,zg1,zg2,zg3,zg4,zg5,zg6,zg7,zg8,zg9,zh0,zh1,zh2,zh3,zh4,zh5,zh6,zh7,zh8,zh9,zi0,zi1,zi2,zi3,zi4,zi5,zi6,wSnil,zi7,zi8,zi9,zj0,zj1,zj2,zj3,zj4,zj5,zj6,zj7,zj8,AV.flatB,AV.flatBs,zj9,zk0,zk1,zk2,zk3,zk4,zk5,zk6,act,AV.cells,AV.mk,AV.asSl,AV.asInt,AV.vslOf,wIdx,zk7,zk8,zk9,zl0,zl1,zl2,zl3,st0,env0,zl4,zl5,zl6,Nat.reduceAdd,Nat.reduceEqDiff,Nat.reduceLeDiff,↓reduceIte,AV.ofV,unV,← decide_not,zl7,zl8,zl9,zm0,zm1,zm2,zm3,zm4,zm5,zm6,zm7,zm8,zm9,zn0,zn1,zn2,zn3,zn4,zn5,zn6,zn7,reduceCtorEq,rowsOf,pureCells,AV.weak,AV.pureB,AV.pureBs,zn8,zn9,zo0,zo1,zo2,Nat.reduceBEq,zo3,zo4,zo5,zo6,zo7,zo8,zo9,zp0,zp1,zp3,zp4,zp5,zp6,zp7,zp8,zp9,zq0,zq1]
      rw [hm hv] at a7
      rw [belowS, if_pos hv]
      have e1 : (walkP [] [] l).1.take l.length = (walkP [] [] l).1 := by
        have := (validC_iff.1 hv).1.opens.length
        rw [List.take_of_length_le (by omega)]
      rw [List.take_length, e1] at a7
      exact OwnSl.le (st := ⟨_, g, v, tg, tp, x⟩) a7
end Go.Av

namespace Go.Av
variable {P : Program} {T : List Nat} {σ : Type}
structure UnderJ (l : List Item) (os : List (List Bs)) (id d : Bs) (i : Nat) (s : St Unit) : Prop where
  g3 : s.gen 3 = 1
  v3 : s.var 3 = [.sl 7 .ro (l.map Item.row)]
  g4 : s.gen 4 = 1
  v4 : s.var 4 = [.imm (.string id)]
  g5 : s.gen 5 = 1
  v5 : s.var 5 = [.imm (.string d)]
  g7 : s.gen 7 = 1
  v7 : s.var 7 = [.imm (.bool (tb (foundS id d false (l.take i) (os.take i))))]
theorem found_succ {id d : Bs} : ∀ {l : List Item} {os : List (List Bs)} {i : Nat} {f : Bool} {x : Item} {o : List Bs}, l[i]? = some x → os[i]? = some o → foundS id d f (l.take (i + 1)) (os.take (i + 1)) = if x.id = id then decide (d = nilS ∨ d ∈ o) else foundS id d f (l.take i) (os.take i)
  | [], _, _, _, _, _, h, _ => by simp at h
  | _ :: _, [], _, _, _, _, _, h => by simp at h
  | y :: l, p :: os, 0, f, x, o, h1, h2 => by
    simp at h1 h2
    subst h1 h2
    simp [foundS]
  | y :: l, p :: os, i + 1, f, x, o, h1, h2 => by
    have ih := found_succ (id := id) (d := d) (i := i) (f := if y.id = id then decide (d = nilS ∨ d ∈ p) else f) (by simpa using h1) (by simpa using h2)
    simp only [zn1,foundS] at ih ⊢
    rw [ih]
theorem under_con (L : Lay P T) (V : StrLib P T) (l : List Item) (id d : Bs) (hl : l.length ≤ 1048576) (hid : Fit l) : Con P T 105 [.agg [.sl 7 .ro (l.map Item.row)], .imm (.string id), .imm (.string d)] (.imm (.bool (decide (underS l id d)))) := by
  refine Con_of nul L.t_code_Under [] [] (by exact Nat.le_of_ble_eq_true rfl) ?_
  change wCode _ (b_code_Under (T.getD · 0)) _ _ _ _
  simp -implicitDefEqProofs only [b_code_Under,splice,zq7,zq8,za0,za1,za2,za3,za4,eff,AV.ptrOf,AV.tokOf,za5,za6,AV.weaks,AV.weak1,za7,za8,za9,zb0,zb1,zb2,zb3,zb4,zb5,zb6,zb7,zb8,zb9,zc0,zc1,zc2,zc3,zc4,zc5,zc6,zc7,zc8,zc9,zd0,zd1,zd2,zd3,zd4,zd5,zd6,zd7,zd8,zd9,ze0,ze1,ze2,ze3,ze4,ze5,ze6,ze7,ze8,ze9,zf0,zf1,zf2,zf3,zf4,zf5,zf6,zf7,zf8,zf9,zg0,zg1,zg2,zg3,zg4,zg5,zg6,zg7,zg8,zg9,zh0,zh1,zh2,zh3,zh4,zh5,zh6,zh7,zh8,zh9,zi0,zi1,zi2,zi3,zi4,zi5,zi6,wSnil,zi7,zi8,zi9,zj0,zj1,zj2,zj3,zj4,zj5,zj6,zj7,zj8,AV.flatB,AV.flatBs,zj9,zk0,zk1,zk2,zk3,zk4,zk5,zk6,act,AV.cells,AV.mk,AV.asSl,AV.asInt,AV.vslOf,wIdx,zk7,zk8,zk9,zl0,zl1,zl2,zl3,st0,env0,zl4,zl5,zl6,Nat.reduceAdd,Nat.reduceEqDiff,Nat.reduceLeDiff,↓reduceIte,AV.ofV,unV,← decide_not,zl7,zl8,zl9,zm0,zm1,zm2,zm3,zm4,zm5,zm6,zm7,zm8,zm9,zn0,zn1,zn2,zn3,zn4,zn5,zn6,zn7,reduceCtorEq,rowsOf,pureCells,AV.weak,AV.pureB,AV.pureBs,zn8,zn9,zo0,zo1,zo2,Nat.reduceBEq,zo3,zo4,zo5,zo6,zo7,zo8,zo9,zp0,zp1]
  refine wCall_I (walk_I L V 100 l hl hid (T.getD 123 0) [.ptr 3 1 0, .ptr 4 1 0, .ptr 5 1 0, .ptr 7 1 0] (UnderJ l (walkP [] [] l).1 id d) ?_ ?_ ?_) ?_
  · exact ⟨by simp [upd], by simp [upd], by simp [upd], by simp [upd], by simp [upd], by simp [upd], by simp [upd], by simp [upd, foundS, tb]⟩
  · rintro i s s' ⟨_, ho⟩ ⟨a1, a2, a3, a4, a5, a6, a7, a8⟩
    obtain ⟨b1, b2, _, _⟩ := ho 3 (by omega)
    obtain ⟨c1, c2, _, _⟩ := ho 4 (by omega)
    obtain ⟨d1, d2, _, _⟩ := ho 5 (by omega)
    obtain ⟨e1, e2, _, _⟩ := ho 7 (by omega)
    exact ⟨b1.trans a1, b2.trans a2, c1.trans a3, c2.trans a4, d1.trans a5, d2.trans a6, e1.trans a7, e2.trans a8⟩
  · rintro i ⟨e, g, v, tg, tp, x⟩ o hi ho hol ⟨a1, a2, a3, a4, a5, a6, a7, a8⟩
    simp only at a1 a2 a3 a4 a5 a6 a7 a8
    refine IV_of L.t_code_Under_d1 (by have := L.len; omega) 200 [] [] (by exact Nat.le_of_ble_eq_true rfl) ?_
    show wCode _ b_code_Under_d1 _ _ _ _
    obtain ⟨a, ha⟩ : ∃ a, l[i]? = some a := ⟨_, List.getElem?_eq_getElem hi⟩
    have hpk := found_succ (id := id) (d := d) (f := false) ha ho
    have fin : ∀ (v' : Nat → List AV), (∀ j, j ≠ 7 → v' j = v j) → v' 7 = [.imm (.bool (tb (foundS id d false (l.take (i + 1)) ((walkP [] [] l).1.take (i + 1)))))] → UnderJ l (walkP [] [] l).1 id d (i + 1) ⟨e, g, v', tg, tp, x⟩ ∧ ∀ j, 100 ≤ j → j < 100 + 62 → g j = g j ∧ v' j = v j ∧ tg j = tg j ∧ tp j = tp j :=
      fun v' f1 f2 => ⟨⟨a1, (f1 3 (by omega)).trans a2, a3, (f1 4 (by omega)).trans a4, a5, (f1 5 (by omega)).trans a6, a7, f2⟩, fun j h1 h2 => ⟨rfl, f1 j (by omega), rfl, rfl⟩⟩
    simp -implicitDefEqProofs only [b_code_Under_d1,a1,a2,a3,a4,a5,a6,a7,a8,Item.row,za0,za1,za2,za3,za4,eff,AV.ptrOf,AV.tokOf,za5,za6,AV.weaks,AV.weak1,za7,za8,za9,zb0,zb1,zb2,zb3,zb4,zb5,zb6,zb7,zb8,zb9,zc0,zc1,zc2,zc3,zc4,zc5,zc6,zc7,zc8,zc9,zd0,zd1,zd2,zd3,zd4,zd5,zd6,zd7,zd8,zd9,ze0,ze1,ze2,ze3,ze4,ze5,ze6,ze7,ze8,ze9,zf0,zf1,zf2,zf3,zf4,zf5,zf6,zf7,zf8,zf9,zg0,zg1,zg2,zg3,zg4,zg5,zg6,zg7,zg8,zg9,zh0,zh1,zh2,zh3,zh4,zh5,zh6,zh7,zh8,zh9,zi0,zi1,zi2,zi3,zi4,zi5,zi6,wSnil,zi7,zi8,zi9,zj0,zj1,zj2,zj3,zj4,zj5,zj6,zj7,zj8,AV.flatB,AV.flatBs,zj9,zk0,zk1,zk2,zk3,zk4,zk5,zk6,act,AV.cells,AV.mk,AV.asSl,AV.asInt,AV.vslOf,wIdx,zk7,zk8,zk9,zl0,zl1,zl2,zl3,st0,env0,zl4,zl5,zl6,Nat.reduceAdd,Nat.reduceEqDiff,Nat.reduceLeDiff,↓reduceIte,AV.ofV,unV,← decide_not,zl7,zl8,zl9,zm0,zm1,zm2,zm3,zm4,zm5,zm6,zm7,zm8,zm9,zn0,zn1,zn2,zn3,zn4,zn5,zn6,zn7,reduceCtorEq,rowsOf,pureCells,AV.weak,AV.pureB,AV.pureBs,zn8,zn9,zo0,zo1,zo2,Nat.reduceBEq,zo3,zo4,zo5,zo6,zo7,zo8,zo9,zp0,zp1,zq9,zr1,zr2,zr3,and_imp,zr4,zr0]
    refine ⟨⟨by omega, by omega⟩, fun a' ha' => ?_⟩
    rw [ha] at ha'
    injection ha' with ha'
    subst ha'
    refine ⟨rfl, fun hid' => ?_, fun hid' => ?_⟩
    · rw [if_pos hid'] at hpk
      simp -implicitDefEqProofs only [r_code_Under_d1_0,a1,a2,a3,a4,a5,a6,a7,a8,za0,za1,za2,za3,za4,eff,AV.ptrOf,AV.tokOf,za5,za6,AV.weaks,AV.weak1,za7,za8,za9,zb0,zb1,zb2,zb3,zb4,zb5,zb6,zb7,zb8,zb9,zc0,zc1,zc2,zc3,zc4,zc5,zc6,zc7,zc8,zc9,zd0,zd1,zd2,zd3,zd4,zd5,zd6,zd7,zd8,zd9,ze0,ze1,ze2,ze3,ze4,ze5,ze6,ze7,ze8,ze9,zf0,zf1,zf2,zf3,zf4,zf5,zf6,zf7,zf8,zf9,zg0,zg1,zg2,zg3,zg4,zg5,zg6,zg7,zg8,zg9,zh0,zh1,zh2,zh3,zh4,zh5,zh6,zh7,zh8,zh9,zi0,zi1,zi2,zi3,zi4,zi5,zi6,wSnil,zi7,zi8,zi9,zj0,zj1,zj2,zj3,zj4,zj5,zj6,zj7,zj8,AV.flatB,AV.flatBs,zj9,zk0,zk1,zk2,zk3,zk4,zk5,zk6,act,AV.cells,AV.mk,AV.asSl,AV.asInt,AV.vslOf,wIdx,zk7,zk8,zk9,zl0,zl1,zl2,zl3,st0,env0,zl4,zl5,zl6,Nat.reduceAdd,Nat.reduceEqDiff,Nat.reduceLeDiff,↓reduceIte,AV.ofV,unV,← decide_not,zl7,zl8,zl9,zm0,zm1,zm2,zm3,zm4,zm5,zm6,zm7,zm8,zm9,zn0,zn1,zn2,zn3,zn4,zn5,zn6,zn7,reduceCtorEq,rowsOf,pureCells,AV.weak,AV.pureB,AV.pureBs,zn8,zn9,zo0,zo1,zo2,Nat.reduceBEq,zo3,zo4,zo5,zo6,zo7,zo8,zo9,zp0,zp1]
      refine ⟨fun hd => ?_, fun hd => ?_⟩
      · refine wCall_imm (scontains_con L o d (by omega)) rfl ?_ ?_
        · simp [AV.les2, AV.weaks, AV.weak1, AV.weak, AV.le2, AV.le1]
        simp -implicitDefEqProofs only [c_code_Under_d1,a1,a2,a3,a4,a5,a6,a7,a8,splice,zq7,zq8,za0,za1,za2,za3,za4,eff,AV.ptrOf,AV.tokOf,za5,za6,AV.weaks,AV.weak1,za7,za8,za9,zb0,zb1,zb2,zb3,zb4,zb5,zb6,zb7,zb8,zb9,zc0,zc1,zc2,zc3,zc4,zc5,zc6,zc7,zc8,zc9,zd0,zd1,zd2,zd3,zd4,zd5,zd6,zd7,zd8,zd9,ze0,ze1,ze2,ze3,ze4,ze5,ze6,ze7,ze8,ze9,zf0,zf1,zf2,zf3,zf4,zf5,zf6,zf7,zf8,zf9,zg0,zg1,zg2,zg3,zg4,zg5,zg6,zg7,zg8,zg9,zh0,zh1,zh2,zh3,zh4,zh5,zh6,zh7,zh8,zh9,zi0,zi1,zi2,zi3,zi4,zi5,zi6,wSnil,zi7,zi8,zi9,zj0,zj1,zj2,zj3,zj4,zj5,zj6,zj7,zj8,AV.flatB,AV.flatBs,zj9,zk0,zk1,zk2,zk3,zk4,zk5,zk6,act,AV.cells,AV.mk,AV.asSl,AV.asInt,AV.vslOf,wIdx,zk7,zk8,zk9,zl0,zl1,zl2,zl3,st0,env0,zl4,zl5,zl6,Nat.reduceAdd,Nat.reduceEqDiff,Nat.reduceLeDiff,↓reduceIte,AV.ofV,unV,← decide_not,zl7,zl8,zl9,zm0,zm1,zm2,zm3,zm4,zm5,zm6,zm7,zm8,zm9,zn0,zn1,zn2,zn3,zn4,zn5,zn6,zn7,reduceCtorEq,rowsOf,pureCells,AV.weak,AV.pureB,AV.pureBs,zn8,zn9,zo0,zo1,zo2,Nat.reduceBEq,zo3,zo4,zo5,zo6,zo7,zo8,zo9,zp0,zp1,zp2,zp3,zp4,zp5,zp6,zp7,zp8,zp9,zq0,zq1]
        have hd' : ¬ d = nilS := hd
        have q := fin (upd v 7 [.imm (.bool (decide (d ∈ o)))]) (fun j hj => by simp [upd, hj]) (by rw [hpk]; simp [upd, tb, hd'])
        simpa [upd] using q
      · simp -implicitDefEqProofs only [c_code_Under_d1,a1,a2,a3,a4,a5,a6,a7,a8,splice,zq7,zq8,za0,za1,za2,za3,za4,eff,AV.ptrOf,AV.tokOf,za5,za6,AV.weaks,AV.weak1,za7,za8,za9,zb0,zb1,zb2,zb3,zb4,zb5,zb6,zb7,zb8,zb9,zc0,zc1,zc2,zc3,zc4,zc5,zc6,zc7,zc8,zc9,zd0,zd1,zd2,zd3,zd4,zd5,zd6,zd7,zd8,zd9,ze0,ze1,ze2,ze3,ze4,ze5,ze6,ze7,ze8,ze9,zf0,zf1,zf2,zf3,zf4,zf5,zf6,zf7,zf8,zf9,zg0,zg1,zg2,zg3,zg4,zg5,zg6,zg7,zg8,zg9,zh0,zh1,zh2,zh3,zh4,zh5,zh6,zh7,zh8,zh9,zi0,zi1,zi2,zi3,zi4,zi5,zi6,wSnil,zi7,zi8,zi9,zj0,zj1,zj2,zj3,zj4,zj5,zj6,zj7,zj8,AV.flatB,AV.flatBs,zj9,zk0,zk1,zk2,zk3,zk4,zk5,zk6,act,AV.cells,AV.mk,AV.asSl,AV.asInt,AV.vslOf,wIdx,zk7,zk8,zk9,zl0,zl1,zl2,zl3,st0,env0,zl4,zl5,zl6,Nat.reduceAdd,Nat.reduceEqDiff,Nat.reduceLeDiff,↓reduceIte,AV.ofV,unV,← decide_not,zl7,zl8,zl9,zm0,zm1,zm2,zm3,zm4,zm5,zm6,zm7,zm8,zm9,zn0,zn1,zn2,zn3,zn4,zn5,zn6,zn7,reduceCtorEq,rowsOf,pureCells,AV.weak,AV.pureB,AV.pureBs,zn8,zn9,zo0,zo1,zo2,Nat.reduceBEq,zo3,zo4,zo5,zo6,zo7,zo8,zo9,zp0,zp1,zp2,zp3,zp4,zp5,zp6,zp7,zp8,zp9,zq0,zq1]
        have hd' : d = nilS := hd
        have q := fin (upd v 7 [.imm (.bool true)]) (fun j hj => by simp [upd, hj]) (by rw [hpk]; simp [upd, tb, hd'])
        simpa [upd] using q
    · rw [if_neg hid'] at hpk
      simp -implicitDefEqProofs only [c_code_Under_d1,za0,za1,za2,za3,za4,eff,AV.ptrOf,AV.tokOf,za5,za6,AV.weaks,AV.weak1,za7,za8,za9,zb0,zb1,zb2,zb3,zb4,zb5,zb6,zb7,zb8,zb9,zc0,zc1,zc2,zc3,zc4,zc5,zc6,zc7,zc8,zc9,zd0,zd1,zd2,zd3,zd4,zd5,zd6,zd7,zd8,zd9,ze0,ze1,ze2,ze3,ze4,ze5,ze6,ze7,ze8,ze9,zf0,zf1,zf2,zf3,zf4,zf5,zf6,zf7,zf8,zf9,zg0,zg1,zg2,zg3,zg4,zg5,zg6,zg7,zg8,zg9,zh0,zh1,zh2,zh3,zh4,zh5,zh6,zh7,zh8,zh9,zi0,zi1,zi2,zi3,zi4,zi5,zi6,wSnil,zi7,zi8,zi9,zj0,zj1,zj2,zj3,zj4,zj5,zj6,zj7,zj8,AV.flatB,AV.flatBs,zj9,zk0,zk1,zk2,zk3,zk4,zk5,zk6,act,AV.cells,AV.mk,AV.asSl,AV.asInt,AV.vslOf,wIdx,zk7,zk8,zk9,zl0,zl1,zl2,zl3,st0,env0,zl4,zl5,zl6,Nat.reduceAdd,Nat.reduceEqDiff,Nat.reduceLeDiff,↓reduceIte,AV.ofV,unV,← decide_not,zl7,zl8,zl9,zm0,zm1,zm2,zm3,zm4,zm5,zm6,zm7,zm8,zm9,zn0,zn1,zn2,zn3,zn4,zn5,zn6,zn7,reduceCtorEq,rowsOf,pureCells,AV.weak,AV.pureB,AV.pureBs,zn8,zn9,zo0,zo1,zo2,Nat.reduceBEq,zo3,zo4,zo5,zo6,zo7,zo8,zo9,zp0,zp1,zp2,zp3,zp4,zp5,zp6,zp7,zp8,zp9,zq0,zq1]
      have q := fin v (fun j hj => rfl) (by rw [hpk]; exact a8)
      simpa using q
  · rintro _ ⟨e, g, v, tg, tp, x⟩ ⟨rfl, m, ⟨a1, a2, a3, a4, a5, a6, a7, a8⟩, hm⟩ he
    simp only at a1 a2 a3 a4 a5 a6 a7 a8 he
    subst he
    simp -implicitDefEqProofs only [a1,a2,a3,a4,a5,a6,a7,a8,za0,za1,za2,za3,za4,eff,AV.ptrOf,AV.tokOf,za5,za6,AV.weaks,AV.weak1,za7,za8,za9,zb0,zb1,zb2,zb3,zb4,zb5,zb6,zb7,zb8,zb9,zc0,zc1,zc2,zc3,zc4,zc5,zc6,zc7,zc8,zc9,zd0,zd1,zd2,zd3,zd4,zd5,zd6,zd7,zd8,zd9,ze0,ze1,ze2,ze3,ze4,ze5,ze6,ze7,ze8,ze9,zf0,zf1,zf2,zf3,zf4,zf5,zf6,zf7,zf8,zf9,zg0,zg1,zg2,zg3,zg4,zg5,zg6,zg7,zg8,zg9,zh0,zh1,zh2,zh3,zh4,zh5,zh6,zh7,zh8,zh9,zi0,zi1,zi2,zi3,zi4,zi5,zi6,wSnil,zi7,zi8,zi9,zj0,zj1,zj2,zj3,zj4,zj5,zj6,zj7,zj8,AV.flatB,AV.flatBs,zj9,zk0,zk1,zk2,zk3,zk4,zk5,zk6,act,AV.cells,AV.mk,AV.asSl,AV.asInt,AV.vslOf,wIdx,zk7,zk8,zk9,zl0,zl1,zl2,zl3,st0,env0,zl4,zl5,zl6,Nat.reduceAdd,Nat.reduceEqDiff,Nat.reduceLeDiff,↓reduceIte,AV.ofV,unV,← decide_not,zl7,zl8,zl9,zm0,zm1,zm2,zm3,zm4,zm5,zm6,zm7,zm8,zm9,zn0,zn1,zn2,zn3,zn4,zn5,zn6,zn7,reduceCtorEq,rowsOf,pureCells,AV.weak,AV.pureB,AV.pureBs,zn8,zn9,zo0,zo1,zo2,Nat.reduceBEq,zo3,zo4,zo5,zo6,zo7,zo8,zo9,zp0,zp1]
    refine ⟨fun hv => ?_, fun hn => ?_⟩
    · simp -implicitDefEqProofs only [c_code_Under,za0,za1,za2,za3,za4,eff,AV.ptrOf,AV.tokOf,za5,za6,AV.weaks,AV.weak1,za7,za8,za9,zb0,zb1,zb2,zb3,zb4,zb5,zb6,zb7,zb8,zb9,zc0,zc1,zc2,zc3,zc4,zc5,zc6,zc7,zc8,zc9,zd0,zd1,zd2,zd3,zd4,zd5,zd6,zd7,zd8,zd9,ze0,ze1,ze2,ze3,ze4,ze5,ze6,ze7,ze8,ze9,zf0,zf1,zf2,zf3,zf4,zf5,zf6,zf7,zf8,zf9,zg0,zg1,zg2,zg3,zg4,zg5,zg6,zg7,zg8,zg9,zh0,zh1,zh2,zh3,zh4,zh5,zh6,zh7,zh8,zh9,zi0,zi1,zi2,zi3,zi4,zi5,zi6,wSnil,zi7,zi8,zi9,zj0,zj1,zj2,zj3,zj4,zj5,zj6,zj7,zj8,AV.flatB,AV.flatBs,zj9,zk0,zk1,zk2,zk3,zk4,zk5,zk6,act,AV.cells,AV.mk,AV.asSl,AV.asInt,AV.vslOf,wIdx,zk7,zk8,zk9,zl0,zl1,zl2,zl3,st0,env0,zl4,zl5,zl6,Nat.reduceAdd,Nat.reduceEqDiff,Nat.reduceLeDiff,↓reduceIte,AV.ofV,unV,← decide_not,zl7,zl8,zl9,zm0,zm1,zm2,zm3,zm4,zm5,zm6,zm7,zm8,zm9,zn0,zn1,zn2,zn3,zn4,zn5,zn6,zn7,reduceCtorEq,rowsOf,pureCells,AV.weak,AV.pureB,AV.pureBs,zn8,zn9,zo0,zo1,zo2,Nat.reduceBEq,zo3,zo4,zo5,zo6,zo7,zo8,zo9,zp0,zp1,zp2,zp3,zp4,zp5,zp6,zp7,zp8,zp9,zq0,zq1]
      rw [hm hv]
      have e1 : (walkP [] [] l).1.take l.length = (walkP [] [] l).1 := by
        have := (validC_iff.1 hv).1.opens.length
        rw [List.take_of_length_le (by omega)]
      rw [List.take_length, e1]
      simp [underS, hv, tb]
    · simp -implicitDefEqProofs only [c_code_Under,za0,za1,za2,za3,za4,eff,AV.ptrOf,AV.tokOf,za5,za6,AV.weaks,AV.weak1,za7,za8,za9,zb0,zb1,zb2,zb3,zb4,zb5,zb6,zb7,zb8,zb9,zc0,zc1,zc2,zc3,zc4,zc5,zc6,zc7,zc8,zc9,zd0,zd1,zd2,zd3,zd4,zd5,zd6,zd7,zd8,zd9,ze0,ze1,ze2,ze3,ze4,ze5,ze6,ze7,ze8,ze9,zf0,zf1,zf2,zf3,zf4,zf5,zf6,zf7,zf8,zf9,zg0,zg1,zg2,zg3,zg4,zg5,zg6,zg7,zg8,zg9,zh0,zh1,zh2,zh3,zh4,zh5,zh6,zh7,zh8,zh9,zi0,zi1,zi2,zi3,zi4,zi5,zi6,wSnil,zi7,zi8,zi9,zj0,zj1,zj2,zj3,zj4,zj5,zj6,zj7,zj8,AV.flatB,AV.flatBs,zj9,zk0,zk1,zk2,zk3,zk4,zk5,zk6,act,AV.cells,AV.mk,AV.asSl,AV.asInt,AV.vslOf,wIdx,zk7,zk8,zk9,zl0,zl1,zl2,zl3,st0,env0,zl4,zl5,zl6,Nat.reduceAdd,Nat.reduceEqDiff,Nat.reduceLeDiff,↓reduceIte,AV.ofV,unV,← decide_not,zl7,zl8,zl9,zm0,zm1,zm2,zm3,zm4,zm5,zm6,zm7,zm8,zm9,zn0,zn1,zn2,zn3,zn4,zn5,zn6,zn7,reduceCtorEq,rowsOf,pureCells,AV.weak,AV.pureB,AV.pureBs,zn8,zn9,zo0,zo1,zo2,Nat.reduceBEq,zo3,zo4,zo5,zo6,zo7,zo8,zo9,zp0,zp1,zp2,zp3,zp4,zp5,zp6,zp7,zp8,zp9,zq0,zq1]
      exact (decide_eq_false fun h => hn h.1).symm
theorem size_con (L : Lay P T) (V : StrLib P T) (l : List Item) (p : PatchS) (i : Int) (id : Bs) (hl : l.length ≤ 1048576) (hid : Fit l) : Con P T 106 [chg l p i, .imm (.string id)] (.imm (.int .i64 ((1 + (belowS l id).length : Nat) : Int))) := by
  refine Con_of nul L.t_patch_change_size [] [] (by exact Nat.le_of_ble_eq_true rfl) ?_
  show wCode _ b_patch_change_size _ _ _ _
  simp -implicitDefEqProofs only [b_patch_change_size,chg,PatchS.row,Item.row,za0,za1,za2,za3,za4,eff,AV.ptrOf,AV.tokOf,za5,za6,AV.weaks,AV.weak1,za7,za8,za9,zb0,zb1,zb2,zb3,zb4,zb5,zb6,zb7,zb8,zb9,zc0,zc1,zc2,zc3,zc4,zc5,zc6,zc7,zc8,zc9,zd0,zd1,zd2,zd3,zd4,zd5,zd6,zd7,zd8,zd9,ze0,ze1,ze2,ze3,ze4,ze5,ze6,ze7,ze8,ze9,zf0,zf1,zf2,zf3,zf4,zf5,zf6,zf7,zf8,zf9,zg0,zg1,zg2,zg3,zg4,zg5,zg6,zg7,zg8,zg9,zh0,zh1,zh2,zh3,zh4,zh5,zh6,zh7,zh8,zh9,zi0,zi1,zi2,zi3,zi4,zi5,zi6,wSnil,zi7,zi8,zi9,zj0,zj1,zj2,zj3,zj4,zj5,zj6,zj7,zj8,AV.flatB,AV.flatBs,zj9,zk0,zk1,zk2,zk3,zk4,zk5,zk6,act,AV.cells,AV.mk,AV.asSl,AV.asInt,AV.vslOf,wIdx,zk7,zk8,zk9,zl0,zl1,zl2,zl3,st0,env0,zl4,zl5,zl6,Nat.reduceAdd,Nat.reduceEqDiff,Nat.reduceLeDiff,↓reduceIte,AV.ofV,unV,← decide_not,zl7,zl8,zl9,zm0,zm1,zm2,zm3,zm4,zm5,zm6,zm7,zm8,zm9,zn0,zn1,zn2,zn3,zn4,zn5,zn6,zn7,reduceCtorEq,rowsOf,pureCells,AV.weak,AV.pureB,AV.pureBs,zn8,zn9,zo0,zo1,zo2,Nat.reduceBEq,zo3,zo4,zo5,zo6,zo7,zo8,zo9,zp0,zp1]
  refine wCall_pure (below_con L V l id hl hid) rfl rfl ?_ ?_
  · exact AV.les2_refl _
  simp -implicitDefEqProofs only [c_patch_change_size,za0,za1,za2,za3,za4,eff,AV.ptrOf,AV.tokOf,za5,za6,AV.weaks,AV.weak1,za7,za8,za9,zb0,zb1,zb2,zb3,zb4,zb5,zb6,zb7,zb8,zb9,zc0,zc1,zc2,zc3,zc4,zc5,zc6,zc7,zc8,zc9,zd0,zd1,zd2,zd3,zd4,zd5,zd6,zd7,zd8,zd9,ze0,ze1,ze2,ze3,ze4,ze5,ze6,ze7,ze8,ze9,zf0,zf1,zf2,zf3,zf4,zf5,zf6,zf7,zf8,zf9,zg0,zg1,zg2,zg3,zg4,zg5,zg6,zg7,zg8,zg9,zh0,zh1,zh2,zh3,zh4,zh5,zh6,zh7,zh8,zh9,zi0,zi1,zi2,zi3,zi4,zi5,zi6,wSnil,zi7,zi8,zi9,zj0,zj1,zj2,zj3,zj4,zj5,zj6,zj7,zj8,AV.flatB,AV.flatBs,zj9,zk0,zk1,zk2,zk3,zk4,zk5,zk6,act,AV.cells,AV.mk,AV.asSl,AV.asInt,AV.vslOf,wIdx,zk7,zk8,zk9,zl0,zl1,zl2,zl3,st0,env0,zl4,zl5,zl6,Nat.reduceAdd,Nat.reduceEqDiff,Nat.reduceLeDiff,↓reduceIte,AV.ofV,unV,← decide_not,zl7,zl8,zl9,zm0,zm1,zm2,zm3,zm4,zm5,zm6,zm7,zm8,zm9,zn0,zn1,zn2,zn3,zn4,zn5,zn6,zn7,reduceCtorEq,rowsOf,pureCells,AV.weak,AV.pureB,AV.pureBs,zn8,zn9,zo0,zo1,zo2,Nat.reduceBEq,zo3,zo4,zo5,zo6,zo7,zo8,zo9,zp0,zp1,zp2,zp3,zp4,zp5,zp6,zp7,zp8,zp9,zq0,zq1,zq9]
  have hb : (belowS l id).length ≤ l.length := by
    unfold belowS
    split
    · exact pick_len _ _
    · simp
  rw [IntWalk.i64_in _ (by omega)]
  push_cast
  rfl
end Go.Av

namespace Go.Av
variable {P : Program} {T : List Nat} {σ : Type}
theorem int_beq (a b : Int) : (a == b) = decide (a = b) := by by_cases h : a = b <;> simp [h]
theorem eq15 {a1 b1 a6 b6 a13 b13 : Int} {a2 a3 a4 a5 a7 a8 a9 a10 a11 a14 a15 b2 b3 b4 b5 b7 b8 b9 b10 b11 b14 b15 : Bs} {a12 b12 : Bool} :
    eqCells [1, 2, 2, 2, 2, 1, 2, 2, 2, 2, 2, 0, 1, 2, 2] [.imm (.int .i64 a1), .imm (.string a2), .imm (.string a3), .imm (.string a4), .imm (.string a5), .imm (.int .i64 a6), .imm (.string a7), .imm (.string a8), .imm (.string a9), .imm (.string a10), .imm (.string a11), .imm (.bool a12), .imm (.int .i64 a13), .imm (.string a14), .imm (.string a15)]
      [.imm (.int .i64 b1), .imm (.string b2), .imm (.string b3), .imm (.string b4), .imm (.string b5), .imm (.int .i64 b6), .imm (.string b7), .imm (.string b8), .imm (.string b9), .imm (.string b10), .imm (.string b11), .imm (.bool b12), .imm (.int .i64 b13), .imm (.string b14), .imm (.string b15)] =
    some (decide ((⟨a1, a2, a3, a4, a5, ⟨a6, a7, a8, a9, a10, a11, a12⟩, a13, a14, a15⟩ : PatchS) = ⟨b1, b2, b3, b4, b5, ⟨b6, b7, b8, b9, b10, b11, b12⟩, b13, b14, b15⟩)) := by
  have e2 : (a12 == b12) = decide (a12 = b12) := by by_cases h : a12 = b12 <;> simp [h]
  simp only [eqCells,eqCell,zo3,bytes_beq,int_beq,e2]
  congr 1
  simp only [PatchS.mk.injEq,Item.mk.injEq,Bool.decide_and,zo1,Bool.and_assoc]
theorem proper_one (x : Item) (h : x.parent = nilS) : ValidC [x] ↔ Proper x := by
  unfold ValidC
  rw [walkP]
  by_cases hp : Proper x <;> simp [hp, walkP, openAt, h]
theorem formed1_con (L : Lay P T) (V : StrLib P T) (x : Item) (hx : x.id.size ≤ 1048576) : Con P T 101 [.agg x.row] (.imm (.bool (decide (ValidC [x])))) := by
  refine Con_of nul L.t_patch_formed_d1 [] [] (by exact Nat.le_of_ble_eq_true rfl) ?_
  show wCode _ b_patch_formed_d1 _ _ _ _
  simp -implicitDefEqProofs only [b_patch_formed_d1,Item.row,fills,splice,zq7,zq8,za0,za1,za2,za3,za4,eff,AV.ptrOf,AV.tokOf,za5,za6,AV.weaks,AV.weak1,za7,za8,za9,zb0,zb1,zb2,zb3,zb4,zb5,zb6,zb7,zb8,zb9,zc0,zc1,zc2,zc3,zc4,zc5,zc6,zc7,zc8,zc9,zd0,zd1,zd2,zd3,zd4,zd5,zd6,zd7,zd8,zd9,ze0,ze1,ze2,ze3,ze4,ze5,ze6,ze7,ze8,ze9,zf0,zf1,zf2,zf3,zf4,zf5,zf6,zf7,zf8,zf9,zg0,zg1,zg2,zg3,zg4,zg5,zg6,zg7,zg8,zg9,zh0,zh1,zh2,zh3,zh4,zh5,zh6,zh7,zh8,zh9,zi0,zi1,zi2,zi3,zi4,zi5,zi6,wSnil,zi7,zi8,zi9,zj0,zj1,zj2,zj3,zj4,zj5,zj6,zj7,zj8,AV.flatB,AV.flatBs,zj9,zk0,zk1,zk2,zk3,zk4,zk5,zk6,act,AV.cells,AV.mk,AV.asSl,AV.asInt,AV.vslOf,wIdx,zk7,zk8,zk9,zl0,zl1,zl2,zl3,st0,env0,zl4,zl5,zl6,Nat.reduceAdd,Nat.reduceEqDiff,Nat.reduceLeDiff,↓reduceIte,AV.ofV,unV,← decide_not,zl7,zl8,zl9,zm0,zm1,zm2,zm3,zm4,zm5,zm6,zm7,zm8,zm9,zn0,zn1,zn2,zn3,zn4,zn5,zn6,zn7,reduceCtorEq,rowsOf,pureCells,AV.weak,AV.pureB,AV.pureBs,zn8,zn9,zo0,zo1,zo2,Nat.reduceBEq,zo3,zo4,zo5,zo6,zo7,zo8,zo9,zp0,zp1]
  refine wCall_imm (valid_con L V [x] (by simp) (by intro y hy; simp at hy; subst hy; exact hx)) rfl ?_ ?_
  · simp [AV.les2, AV.weaks, AV.weak1, AV.weak, AV.le2, AV.le1, AV.les1, Item.row]
  simp -implicitDefEqProofs only [c_patch_formed_d1,za0,za1,za2,za3,za4,eff,AV.ptrOf,AV.tokOf,za5,za6,AV.weaks,AV.weak1,za7,za8,za9,zb0,zb1,zb2,zb3,zb4,zb5,zb6,zb7,zb8,zb9,zc0,zc1,zc2,zc3,zc4,zc5,zc6,zc7,zc8,zc9,zd0,zd1,zd2,zd3,zd4,zd5,zd6,zd7,zd8,zd9,ze0,ze1,ze2,ze3,ze4,ze5,ze6,ze7,ze8,ze9,zf0,zf1,zf2,zf3,zf4,zf5,zf6,zf7,zf8,zf9,zg0,zg1,zg2,zg3,zg4,zg5,zg6,zg7,zg8,zg9,zh0,zh1,zh2,zh3,zh4,zh5,zh6,zh7,zh8,zh9,zi0,zi1,zi2,zi3,zi4,zi5,zi6,wSnil,zi7,zi8,zi9,zj0,zj1,zj2,zj3,zj4,zj5,zj6,zj7,zj8,AV.flatB,AV.flatBs,zj9,zk0,zk1,zk2,zk3,zk4,zk5,zk6,act,AV.cells,AV.mk,AV.asSl,AV.asInt,AV.vslOf,wIdx,zk7,zk8,zk9,zl0,zl1,zl2,zl3,st0,env0,zl4,zl5,zl6,Nat.reduceAdd,Nat.reduceEqDiff,Nat.reduceLeDiff,↓reduceIte,AV.ofV,unV,← decide_not,zl7,zl8,zl9,zm0,zm1,zm2,zm3,zm4,zm5,zm6,zm7,zm8,zm9,zn0,zn1,zn2,zn3,zn4,zn5,zn6,zn7,reduceCtorEq,rowsOf,pureCells,AV.weak,AV.pureB,AV.pureBs,zn8,zn9,zo0,zo1,zo2,Nat.reduceBEq,zo3,zo4,zo5,zo6,zo7,zo8,zo9,zp0,zp1,zp2,zp3,zp4,zp5,zp6,zp7,zp8,zp9,zq0,zq1]
def bareE (p : PatchS) (pa af nu : Bs) (it : Item) (la : Int) (ol ne : Bs) : Prop := p = ⟨p.kind, p.id, pa, af, nu, it, la, ol, ne⟩
theorem formed_k1 {p : PatchS} (k : p.kind = 1) : FormedP p ↔ (p = { zeroP 1 p.id with parent := p.parent, after := p.after, item := p.item } ∧ p.item.id = p.id ∧ p.item.parent = p.parent) ∧ Proper { p.item with parent := nilS } := by
  simp [FormedP, k, and_assoc]
theorem formed_k2 {p : PatchS} (k : p.kind = 2) : FormedP p ↔ p = ⟨p.kind, p.id, ⟨#[]⟩, ⟨#[]⟩, ⟨#[]⟩, ⟨0, ⟨#[]⟩, ⟨#[]⟩, ⟨#[]⟩, ⟨#[]⟩, ⟨#[]⟩, false⟩, p.lang, p.old, p.new⟩ ∧ p.old ≠ ⟨#[]⟩ ∧ (p.lang = 1 ∨ p.lang = 2) := by
  simp [FormedP, k, zeroP, noItem, nilS]
theorem formed_k3 {p : PatchS} (k : p.kind = 3) : FormedP p ↔ p = ⟨p.kind, p.id, ⟨#[]⟩, ⟨#[]⟩, p.number, ⟨0, ⟨#[]⟩, ⟨#[]⟩, ⟨#[]⟩, ⟨#[]⟩, ⟨#[]⟩, false⟩, 0, ⟨#[]⟩, ⟨#[]⟩⟩ ∧ NumP p.number := by
  simp [FormedP, k, zeroP, noItem, nilS]
theorem formed_k4 {p : PatchS} (k : p.kind = 4) : FormedP p ↔ p = ⟨p.kind, p.id, p.parent, p.after, ⟨#[]⟩, ⟨0, ⟨#[]⟩, ⟨#[]⟩, ⟨#[]⟩, ⟨#[]⟩, ⟨#[]⟩, false⟩, 0, ⟨#[]⟩, ⟨#[]⟩⟩ := by
  simp [FormedP, k, zeroP, noItem, nilS]
theorem formed_k5 {p : PatchS} (k : p.kind = 5 ∨ p.kind = 6) : FormedP p ↔ p = ⟨p.kind, p.id, ⟨#[]⟩, ⟨#[]⟩, ⟨#[]⟩, ⟨0, ⟨#[]⟩, ⟨#[]⟩, ⟨#[]⟩, ⟨#[]⟩, ⟨#[]⟩, false⟩, 0, ⟨#[]⟩, ⟨#[]⟩⟩ := by
  rcases k with k | k <;> simp [FormedP, k, zeroP, noItem, nilS]
theorem formed_k7 {p : PatchS} (k : p.kind = 7) : FormedP p ↔ p = ⟨p.kind, p.id, ⟨#[]⟩, ⟨#[]⟩, ⟨#[]⟩, ⟨0, ⟨#[]⟩, ⟨#[]⟩, ⟨#[]⟩, p.item.north, p.item.south, false⟩, 0, ⟨#[]⟩, ⟨#[]⟩⟩ := by
  simp [FormedP, k, zeroP, noItem, nilS]
theorem name_d : NameP ⟨#[100]⟩ := by
  refine ⟨fun i hi => ?_, by decide, by decide, .inl ⟨by decide, by decide⟩⟩
  obtain rfl : i = 0 := by simpa [ByteArray.size] using hi
  exact .inl (.inl ⟨by decide, by decide⟩)
theorem formed_con (L : Lay P T) (V : StrLib P T) (p : PatchS) (hx : p.item.id.size ≤ 1048576) : Con P T 66 [.agg p.row] (.imm (.bool (decide (FormedP p)))) := by
  refine Con_of nul L.t_patch_formed [] [] (by exact Nat.le_of_ble_eq_true rfl) ?_
  change wCode _ (b_patch_formed (T.getD · 0)) _ _ _ _
  simp -implicitDefEqProofs only [b_patch_formed,eq15,PatchS.row,Item.row,fills,splice,zq7,zq8,za9,za0,za1,za2,za3,za4,eff,AV.ptrOf,AV.tokOf,za5,za6,AV.weaks,AV.weak1,za7,za8,zb0,zb1,zb2,zb3,zb4,zb5,zb6,zb7,zb8,zb9,zc0,zc1,zc2,zc3,zc4,zc5,zc6,zc7,zc8,zc9,zd0,zd1,zd2,zd3,zd4,zd5,zd6,zd7,zd8,zd9,ze0,ze1,ze2,ze3,ze4,ze5,ze6,ze7,ze8,ze9,zf0,zf1,zf2,zf3,zf4,zf5,zf6,zf7,zf8,zf9,zg0,zg1,zg2,zg3,zg4,zg5,zg6,zg7,zg8,zg9,zh0,zh1,zh2,zh3,zh4,zh5,zh6,zh7,zh8,zh9,zi0,zi1,zi2,zi3,zi4,zi5,zi6,wSnil,zi7,zi8,zi9,zj0,zj1,zj2,zj3,zj4,zj5,zj6,zj7,zj8,AV.flatB,AV.flatBs,zj9,zk0,zk1,zk2,zk3,zk4,zk5,zk6,act,AV.cells,AV.mk,AV.asSl,AV.asInt,AV.vslOf,wIdx,zk7,zk8,zk9,zl0,zl1,zl2,zl3,st0,env0,zl4,zl5,zl6,Nat.reduceAdd,Nat.reduceEqDiff,Nat.reduceLeDiff,↓reduceIte,AV.ofV,unV,← decide_not,zl7,zl8,zl9,zm0,zm1,zm2,zm3,zm4,zm5,zm6,zm7,zm8,zm9,zn0,zn1,zn2,zn3,zn4,zn5,zn6,zn7,reduceCtorEq,rowsOf,pureCells,AV.weak,AV.pureB,AV.pureBs,zn8,zn9,zo0,zo1,zo2,Nat.reduceBEq,zo3,zo4,zo5,zo6,zo7,zo8,zo9,zp0,zp1]
  have hit : (⟨p.item.kind, p.item.id, p.item.parent, p.item.number, p.item.north, p.item.south, tb p.item.gone⟩ : Item) = p.item := rfl
  have hp : (⟨p.kind, p.id, p.parent, p.after, p.number, p.item, p.lang, p.old, p.new⟩ : PatchS) = p := rfl
  refine ⟨fun k1 => ⟨rfl, ?_⟩, fun k1 => ⟨fun k2 => ⟨rfl, ?_⟩, fun k2 => ⟨fun k3 => ?_, fun k3 => ⟨fun k4 => ⟨rfl, ?_⟩, fun k4 => ⟨fun k5 => ?_, fun k5 => ⟨fun k6 => ?_, fun k6 => ⟨fun k7 => ⟨rfl, ?_⟩, fun k7 => ?_⟩⟩⟩⟩⟩⟩⟩
  · refine wOps_cutL 18 [(44, .imm (.bool (decide (p = { zeroP 1 p.id with parent := p.parent, after := p.after, item := p.item } ∧ p.item.id = p.id ∧ p.item.parent = p.parent)))), (4, .fv (T.getD 101 0) [] []), (5, .ptr 5 1 0)] ?_ ?_
    · simp -implicitDefEqProofs only [r_patch_formed_0,eq15,hit,hp,Envs,za0,za1,za2,za3,za4,eff,AV.ptrOf,AV.tokOf,za5,za6,AV.weaks,AV.weak1,za7,za8,za9,zb0,zb1,zb2,zb3,zb4,zb5,zb6,zb7,zb8,zb9,zc0,zc1,zc2,zc3,zc4,zc5,zc6,zc7,zc8,zc9,zd0,zd1,zd2,zd3,zd4,zd5,zd6,zd7,zd8,zd9,ze0,ze1,ze2,ze3,ze4,ze5,ze6,ze7,ze8,ze9,zf0,zf1,zf2,zf3,zf4,zf5,zf6,zf7,zf8,zf9,zg0,zg1,zg2,zg3,zg4,zg5,zg6,zg7,zg8,zg9,zh0,zh1,zh2,zh3,zh4,zh5,zh6,zh7,zh8,zh9,zi0,zi1,zi2,zi3,zi4,zi5,zi6,wSnil,zi7,zi8,zi9,zj0,zj1,zj2,zj3,zj4,zj5,zj6,zj7,zj8,AV.flatB,AV.flatBs,zj9,zk0,zk1,zk2,zk3,zk4,zk5,zk6,act,AV.cells,AV.mk,AV.asSl,AV.asInt,AV.vslOf,wIdx,zk7,zk8,zk9,zl0,zl1,zl2,zl3,st0,env0,zl4,zl5,zl6,Nat.reduceAdd,Nat.reduceEqDiff,Nat.reduceLeDiff,↓reduceIte,AV.ofV,unV,← decide_not,zl7,zl8,zl9,zm0,zm1,zm2,zm3,zm4,zm5,zm6,zm7,zm8,zm9,zn0,zn1,zn2,zn3,zn4,zn5,zn6,zn7,reduceCtorEq,rowsOf,pureCells,AV.weak,AV.pureB,AV.pureBs,zn8,zn9,zo0,zo1,zo2,Nat.reduceBEq,zo3,zo4,zo5,zo6,zo7,zo8,zo9,zp0,zp1]
      have e1 : (p = ⟨p.kind, p.id, p.parent, p.after, ⟨#[]⟩, p.item, 0, ⟨#[]⟩, ⟨#[]⟩⟩) ↔ p = { zeroP 1 p.id with parent := p.parent, after := p.after, item := p.item } := by
        rw [show ({ zeroP 1 p.id with parent := p.parent, after := p.after, item := p.item } : PatchS) = ⟨p.kind, p.id, p.parent, p.after, ⟨#[]⟩, p.item, 0, ⟨#[]⟩, ⟨#[]⟩⟩ from by rw [k1]; rfl]
      refine ⟨fun h1 => ⟨fun h2 => b_d ⟨fun h3 => ⟨e1.1 h1, h2, h3⟩, fun h => h.2.2⟩, fun h2 => b_f fun h => h2 h.2.1⟩, fun h1 => b_f fun h => h1 (e1.2 h.1)⟩
    · rintro e' ⟨k44, k4, k5, -⟩
      simp -implicitDefEqProofs only [r_patch_formed_0,k44,k4,k5,za0,za1,za2,za3,za4,eff,AV.ptrOf,AV.tokOf,za5,za6,AV.weaks,AV.weak1,za7,za8,za9,zb0,zb1,zb2,zb3,zb4,zb5,zb6,zb7,zb8,zb9,zc0,zc1,zc2,zc3,zc4,zc5,zc6,zc7,zc8,zc9,zd0,zd1,zd2,zd3,zd4,zd5,zd6,zd7,zd8,zd9,ze0,ze1,ze2,ze3,ze4,ze5,ze6,ze7,ze8,ze9,zf0,zf1,zf2,zf3,zf4,zf5,zf6,zf7,zf8,zf9,zg0,zg1,zg2,zg3,zg4,zg5,zg6,zg7,zg8,zg9,zh0,zh1,zh2,zh3,zh4,zh5,zh6,zh7,zh8,zh9,zi0,zi1,zi2,zi3,zi4,zi5,zi6,wSnil,zi7,zi8,zi9,zj0,zj1,zj2,zj3,zj4,zj5,zj6,zj7,zj8,AV.flatB,AV.flatBs,zj9,zk0,zk1,zk2,zk3,zk4,zk5,zk6,act,AV.cells,AV.mk,AV.asSl,AV.asInt,AV.vslOf,wIdx,zk7,zk8,zk9,zl0,zl1,zl2,zl3,st0,env0,zl4,zl5,zl6,Nat.reduceAdd,Nat.reduceEqDiff,Nat.reduceLeDiff,↓reduceIte,AV.ofV,unV,← decide_not,zl7,zl8,zl9,zm0,zm1,zm2,zm3,zm4,zm5,zm6,zm7,zm8,zm9,zn0,zn1,zn2,zn3,zn4,zn5,zn6,zn7,reduceCtorEq,rowsOf,pureCells,AV.weak,AV.pureB,AV.pureBs,zn8,zn9,zo0,zo1,zo2,Nat.reduceBEq,zo3,zo4,zo5,zo6,zo7,zo8,zo9,zp0,zp1]
      refine ⟨fun h => wCallV_imm (CV_of L.t_patch_formed_d1 (by have := L.len; omega) (formed1_con L V { p.item with parent := nilS } hx)) rfl (AV.les2_refl _) ?_, fun h => ?_⟩
      · simp -implicitDefEqProofs only [c_patch_formed,k4,k5,za0,za1,za2,za3,za4,eff,AV.ptrOf,AV.tokOf,za5,za6,AV.weaks,AV.weak1,za7,za8,za9,zb0,zb1,zb2,zb3,zb4,zb5,zb6,zb7,zb8,zb9,zc0,zc1,zc2,zc3,zc4,zc5,zc6,zc7,zc8,zc9,zd0,zd1,zd2,zd3,zd4,zd5,zd6,zd7,zd8,zd9,ze0,ze1,ze2,ze3,ze4,ze5,ze6,ze7,ze8,ze9,zf0,zf1,zf2,zf3,zf4,zf5,zf6,zf7,zf8,zf9,zg0,zg1,zg2,zg3,zg4,zg5,zg6,zg7,zg8,zg9,zh0,zh1,zh2,zh3,zh4,zh5,zh6,zh7,zh8,zh9,zi0,zi1,zi2,zi3,zi4,zi5,zi6,wSnil,zi7,zi8,zi9,zj0,zj1,zj2,zj3,zj4,zj5,zj6,zj7,zj8,AV.flatB,AV.flatBs,zj9,zk0,zk1,zk2,zk3,zk4,zk5,zk6,act,AV.cells,AV.mk,AV.asSl,AV.asInt,AV.vslOf,wIdx,zk7,zk8,zk9,zl0,zl1,zl2,zl3,st0,env0,zl4,zl5,zl6,Nat.reduceAdd,Nat.reduceEqDiff,Nat.reduceLeDiff,↓reduceIte,AV.ofV,unV,← decide_not,zl7,zl8,zl9,zm0,zm1,zm2,zm3,zm4,zm5,zm6,zm7,zm8,zm9,zn0,zn1,zn2,zn3,zn4,zn5,zn6,zn7,reduceCtorEq,rowsOf,pureCells,AV.weak,AV.pureB,AV.pureBs,zn8,zn9,zo0,zo1,zo2,Nat.reduceBEq,zo3,zo4,zo5,zo6,zo7,zo8,zo9,zp0,zp1,zp2,zp3,zp4,zp5,zp6,zp7,zp8,zp9,zq0,zq1]
        exact decide_eq_decide.2 (by rw [formed_k1 k1, proper_one _ rfl]; exact ⟨fun hP => ⟨h, hP⟩, fun h' => h'.2⟩)
      · simp -implicitDefEqProofs only [c_patch_formed,za0,za1,za2,za3,za4,eff,AV.ptrOf,AV.tokOf,za5,za6,AV.weaks,AV.weak1,za7,za8,za9,zb0,zb1,zb2,zb3,zb4,zb5,zb6,zb7,zb8,zb9,zc0,zc1,zc2,zc3,zc4,zc5,zc6,zc7,zc8,zc9,zd0,zd1,zd2,zd3,zd4,zd5,zd6,zd7,zd8,zd9,ze0,ze1,ze2,ze3,ze4,ze5,ze6,ze7,ze8,ze9,zf0,zf1,zf2,zf3,zf4,zf5,zf6,zf7,zf8,zf9,zg0,zg1,zg2,zg3,zg4,zg5,zg6,zg7,zg8,zg9,zh0,zh1,zh2,zh3,zh4,zh5,zh6,zh7,zh8,zh9,zi0,zi1,zi2,zi3,zi4,zi5,zi6,wSnil,zi7,zi8,zi9,zj0,zj1,zj2,zj3,zj4,zj5,zj6,zj7,zj8,AV.flatB,AV.flatBs,zj9,zk0,zk1,zk2,zk3,zk4,zk5,zk6,act,AV.cells,AV.mk,AV.asSl,AV.asInt,AV.vslOf,wIdx,zk7,zk8,zk9,zl0,zl1,zl2,zl3,st0,env0,zl4,zl5,zl6,Nat.reduceAdd,Nat.reduceEqDiff,Nat.reduceLeDiff,↓reduceIte,AV.ofV,unV,← decide_not,zl7,zl8,zl9,zm0,zm1,zm2,zm3,zm4,zm5,zm6,zm7,zm8,zm9,zn0,zn1,zn2,zn3,zn4,zn5,zn6,zn7,reduceCtorEq,rowsOf,pureCells,AV.weak,AV.pureB,AV.pureBs,zn8,zn9,zo0,zo1,zo2,Nat.reduceBEq,zo3,zo4,zo5,zo6,zo7,zo8,zo9,zp0,zp1,zp2,zp3,zp4,zp5,zp6,zp7,zp8,zp9,zq0,zq1]
        exact (decide_eq_false fun hF => h ((formed_k1 k1).1 hF).1).symm
  all_goals simp -implicitDefEqProofs only [r_patch_formed_1,eq15,hit,hp,fills,splice,zq7,zq8,za9,c_patch_formed,za0,za1,za2,za3,za4,eff,AV.ptrOf,AV.tokOf,za5,za6,AV.weaks,AV.weak1,za7,za8,zb0,zb1,zb2,zb3,zb4,zb5,zb6,zb7,zb8,zb9,zc0,zc1,zc2,zc3,zc4,zc5,zc6,zc7,zc8,zc9,zd0,zd1,zd2,zd3,zd4,zd5,zd6,zd7,zd8,zd9,ze0,ze1,ze2,ze3,ze4,ze5,ze6,ze7,ze8,ze9,zf0,zf1,zf2,zf3,zf4,zf5,zf6,zf7,zf8,zf9,zg0,zg1,zg2,zg3,zg4,zg5,zg6,zg7,zg8,zg9,zh0,zh1,zh2,zh3,zh4,zh5,zh6,zh7,zh8,zh9,zi0,zi1,zi2,zi3,zi4,zi5,zi6,wSnil,zi7,zi8,zi9,zj0,zj1,zj2,zj3,zj4,zj5,zj6,zj7,zj8,AV.flatB,AV.flatBs,zj9,zk0,zk1,zk2,zk3,zk4,zk5,zk6,act,AV.cells,AV.mk,AV.asSl,AV.asInt,AV.vslOf,wIdx,zk7,zk8,zk9,zl0,zl1,zl2,zl3,st0,env0,zl4,zl5,zl6,Nat.reduceAdd,Nat.reduceEqDiff,Nat.reduceLeDiff,↓reduceIte,AV.ofV,unV,← decide_not,zl7,zl8,zl9,zm0,zm1,zm2,zm3,zm4,zm5,zm6,zm7,zm8,zm9,zn0,zn1,zn2,zn3,zn4,zn5,zn6,zn7,reduceCtorEq,rowsOf,pureCells,AV.weak,AV.pureB,AV.pureBs,zn8,zn9,zo0,zo1,zo2,Nat.reduceBEq,zo3,zo4,zo5,zo6,zo7,zo8,zo9,zp0,zp1,zp2,zp3,zp4,zp5,zp6,zp7,zp8,zp9,zq0,zq1]
  · refine ⟨fun h1 => ⟨fun h2 => ⟨fun h3 => decide_eq_decide.2 ?_, fun h3 => (decide_eq_true ?_).symm⟩, fun h2 => (decide_eq_false ?_).symm⟩, fun h1 => (decide_eq_false ?_).symm⟩
    · rw [formed_k2 k2]; exact ⟨fun h => ⟨h1, h2, .inr h⟩, fun h => h.2.2.resolve_left h3⟩
    · rw [formed_k2 k2]; exact ⟨h1, h2, .inl h3⟩
    · rw [formed_k2 k2]; exact fun h => h.2.1 h2
    · rw [formed_k2 k2]; exact fun h => h1 h.1
  · refine ⟨fun h1 => wCallV_imm (CV_of L.t_patch_formed_d1 (by have := L.len; omega) (formed1_con L V ⟨1, ⟨#[100]⟩, nilS, p.number, nilS, nilS, false⟩ (show (ByteArray.size ⟨#[100]⟩) ≤ 1048576 from by decide))) rfl (AV.les2_refl _) ?_, fun h1 => ?_⟩
    · simp -implicitDefEqProofs only [c_patch_formed,za0,za1,za2,za3,za4,eff,AV.ptrOf,AV.tokOf,za5,za6,AV.weaks,AV.weak1,za7,za8,za9,zb0,zb1,zb2,zb3,zb4,zb5,zb6,zb7,zb8,zb9,zc0,zc1,zc2,zc3,zc4,zc5,zc6,zc7,zc8,zc9,zd0,zd1,zd2,zd3,zd4,zd5,zd6,zd7,zd8,zd9,ze0,ze1,ze2,ze3,ze4,ze5,ze6,ze7,ze8,ze9,zf0,zf1,zf2,zf3,zf4,zf5,zf6,zf7,zf8,zf9,zg0,zg1,zg2,zg3,zg4,zg5,zg6,zg7,zg8,zg9,zh0,zh1,zh2,zh3,zh4,zh5,zh6,zh7,zh8,zh9,zi0,zi1,zi2,zi3,zi4,zi5,zi6,wSnil,zi7,zi8,zi9,zj0,zj1,zj2,zj3,zj4,zj5,zj6,zj7,zj8,AV.flatB,AV.flatBs,zj9,zk0,zk1,zk2,zk3,zk4,zk5,zk6,act,AV.cells,AV.mk,AV.asSl,AV.asInt,AV.vslOf,wIdx,zk7,zk8,zk9,zl0,zl1,zl2,zl3,st0,env0,zl4,zl5,zl6,Nat.reduceAdd,Nat.reduceEqDiff,Nat.reduceLeDiff,↓reduceIte,AV.ofV,unV,← decide_not,zl7,zl8,zl9,zm0,zm1,zm2,zm3,zm4,zm5,zm6,zm7,zm8,zm9,zn0,zn1,zn2,zn3,zn4,zn5,zn6,zn7,reduceCtorEq,rowsOf,pureCells,AV.weak,AV.pureB,AV.pureBs,zn8,zn9,zo0,zo1,zo2,Nat.reduceBEq,zo3,zo4,zo5,zo6,zo7,zo8,zo9,zp0,zp1,zp2,zp3,zp4,zp5,zp6,zp7,zp8,zp9,zq0,zq1]
      refine decide_eq_decide.2 ?_
      rw [formed_k3 k3, proper_one _ rfl]
      unfold Proper
      exact ⟨fun h => ⟨h1, h.1⟩, fun h => ⟨h.2, name_d, .inl ⟨rfl, rfl, rfl, rfl⟩⟩⟩
    · exact (decide_eq_false fun h => h1 ((formed_k3 k3).1 h).1).symm
  · exact decide_eq_decide.2 (formed_k4 k4).symm
  · exact ⟨fun _ => decide_eq_decide.2 (formed_k5 (.inl k5)).symm, fun h => absurd k5 h⟩
  · exact decide_eq_decide.2 (formed_k5 (.inr k6)).symm
  · exact decide_eq_decide.2 (formed_k7 k7).symm
  · exact (decide_eq_false fun h => by have := h.kinds; omega).symm
end Go.Av

namespace Go.Av
variable {P : Program} {T : List Nat} {σ : Type}
theorem once_con (L : Lay P T) (V : StrLib P T) (t f : Bs) (ht : t.size ≤ 1048576) : Con P T 81 [.imm (.string t), .imm (.string f)] (.tup [.imm (.int .i64 (idxI t f)), .imm (.bool (decide (OnceP t f)))]) := by
  refine Con_of nul L.t_patch_once [] [] (by exact Nat.le_of_ble_eq_true rfl) ?_
  show wCode _ b_patch_once _ _ _ _
  simp -implicitDefEqProofs only [b_patch_once,r_patch_once_0,za0,za1,za2,za3,za4,eff,AV.ptrOf,AV.tokOf,za5,za6,AV.weaks,AV.weak1,za7,za8,za9,zb0,zb1,zb2,zb3,zb4,zb5,zb6,zb7,zb8,zb9,zc0,zc1,zc2,zc3,zc4,zc5,zc6,zc7,zc8,zc9,zd0,zd1,zd2,zd3,zd4,zd5,zd6,zd7,zd8,zd9,ze0,ze1,ze2,ze3,ze4,ze5,ze6,ze7,ze8,ze9,zf0,zf1,zf2,zf3,zf4,zf5,zf6,zf7,zf8,zf9,zg0,zg1,zg2,zg3,zg4,zg5,zg6,zg7,zg8,zg9,zh0,zh1,zh2,zh3,zh4,zh5,zh6,zh7,zh8,zh9,zi0,zi1,zi2,zi3,zi4,zi5,zi6,wSnil,zi7,zi8,zi9,zj0,zj1,zj2,zj3,zj4,zj5,zj6,zj7,zj8,AV.flatB,AV.flatBs,zj9,zk0,zk1,zk2,zk3,zk4,zk5,zk6,act,AV.cells,AV.mk,AV.asSl,AV.asInt,AV.vslOf,wIdx,zk7,zk8,zk9,zl0,zl1,zl2,zl3,st0,env0,zl4,zl5,zl6,Nat.reduceAdd,Nat.reduceEqDiff,Nat.reduceLeDiff,↓reduceIte,AV.ofV,unV,← decide_not,zl7,zl8,zl9,zm0,zm1,zm2,zm3,zm4,zm5,zm6,zm7,zm8,zm9,zn0,zn1,zn2,zn3,zn4,zn5,zn6,zn7,reduceCtorEq,rowsOf,pureCells,AV.weak,AV.pureB,AV.pureBs,zn8,zn9,zo0,zo1,zo2,Nat.reduceBEq,zo3,zo4,zo5,zo6,zo7,zo8,zo9,zp0,zp1]
  refine wCall_imm (index_con V t f ht) rfl (AV.les2_refl _) ?_
  simp -implicitDefEqProofs only [r_patch_once_0,za0,za1,za2,za3,za4,eff,AV.ptrOf,AV.tokOf,za5,za6,AV.weaks,AV.weak1,za7,za8,za9,zb0,zb1,zb2,zb3,zb4,zb5,zb6,zb7,zb8,zb9,zc0,zc1,zc2,zc3,zc4,zc5,zc6,zc7,zc8,zc9,zd0,zd1,zd2,zd3,zd4,zd5,zd6,zd7,zd8,zd9,ze0,ze1,ze2,ze3,ze4,ze5,ze6,ze7,ze8,ze9,zf0,zf1,zf2,zf3,zf4,zf5,zf6,zf7,zf8,zf9,zg0,zg1,zg2,zg3,zg4,zg5,zg6,zg7,zg8,zg9,zh0,zh1,zh2,zh3,zh4,zh5,zh6,zh7,zh8,zh9,zi0,zi1,zi2,zi3,zi4,zi5,zi6,wSnil,zi7,zi8,zi9,zj0,zj1,zj2,zj3,zj4,zj5,zj6,zj7,zj8,AV.flatB,AV.flatBs,zj9,zk0,zk1,zk2,zk3,zk4,zk5,zk6,act,AV.cells,AV.mk,AV.asSl,AV.asInt,AV.vslOf,wIdx,zk7,zk8,zk9,zl0,zl1,zl2,zl3,st0,env0,zl4,zl5,zl6,Nat.reduceAdd,Nat.reduceEqDiff,Nat.reduceLeDiff,↓reduceIte,AV.ofV,unV,← decide_not,zl7,zl8,zl9,zm0,zm1,zm2,zm3,zm4,zm5,zm6,zm7,zm8,zm9,zn0,zn1,zn2,zn3,zn4,zn5,zn6,zn7,reduceCtorEq,rowsOf,pureCells,AV.weak,AV.pureB,AV.pureBs,zn8,zn9,zo0,zo1,zo2,Nat.reduceBEq,zo3,zo4,zo5,zo6,zo7,zo8,zo9,zp0,zp1]
  have fin : ∀ y : AV, y = .imm (.bool (decide (OnceP t f))) → endR (.tup [.imm (.int .i64 (idxI t f)), y]) (.tup [.imm (.int .i64 (idxI t f)), .imm (.bool (decide (OnceP t f)))]) (st0 () []) := by
    rintro y rfl
    exact endR_pure rfl rfl
  refine ⟨fun h0 => wCall_imm (last_con V t f ht) rfl (AV.les2_refl _) ?_, fun h0 => ?_⟩
  · simp -implicitDefEqProofs only [c_patch_once,za0,za1,za2,za3,za4,eff,AV.ptrOf,AV.tokOf,za5,za6,AV.weaks,AV.weak1,za7,za8,za9,zb0,zb1,zb2,zb3,zb4,zb5,zb6,zb7,zb8,zb9,zc0,zc1,zc2,zc3,zc4,zc5,zc6,zc7,zc8,zc9,zd0,zd1,zd2,zd3,zd4,zd5,zd6,zd7,zd8,zd9,ze0,ze1,ze2,ze3,ze4,ze5,ze6,ze7,ze8,ze9,zf0,zf1,zf2,zf3,zf4,zf5,zf6,zf7,zf8,zf9,zg0,zg1,zg2,zg3,zg4,zg5,zg6,zg7,zg8,zg9,zh0,zh1,zh2,zh3,zh4,zh5,zh6,zh7,zh8,zh9,zi0,zi1,zi2,zi3,zi4,zi5,zi6,wSnil,zi7,zi8,zi9,zj0,zj1,zj2,zj3,zj4,zj5,zj6,zj7,zj8,AV.flatB,AV.flatBs,zj9,zk0,zk1,zk2,zk3,zk4,zk5,zk6,act,AV.cells,AV.mk,AV.asSl,AV.asInt,AV.vslOf,wIdx,zk7,zk8,zk9,zl0,zl1,zl2,zl3,st0,env0,zl4,zl5,zl6,Nat.reduceAdd,Nat.reduceEqDiff,Nat.reduceLeDiff,↓reduceIte,AV.ofV,unV,← decide_not,zl7,zl8,zl9,zm0,zm1,zm2,zm3,zm4,zm5,zm6,zm7,zm8,zm9,zn0,zn1,zn2,zn3,zn4,zn5,zn6,zn7,reduceCtorEq,rowsOf,pureCells,AV.weak,AV.pureB,AV.pureBs,zn8,zn9,zo0,zo1,zo2,Nat.reduceBEq,zo3,zo4,zo5,zo6,zo7,zo8,zo9,zp0,zp1,zp2,zp3,zp4,zp5,zp6,zp7,zp8,zp9,zq0,zq1]
    exact fin _ (b_d (by unfold OnceP; simp [h0]))
  · simp -implicitDefEqProofs only [c_patch_once,za0,za1,za2,za3,za4,eff,AV.ptrOf,AV.tokOf,za5,za6,AV.weaks,AV.weak1,za7,za8,za9,zb0,zb1,zb2,zb3,zb4,zb5,zb6,zb7,zb8,zb9,zc0,zc1,zc2,zc3,zc4,zc5,zc6,zc7,zc8,zc9,zd0,zd1,zd2,zd3,zd4,zd5,zd6,zd7,zd8,zd9,ze0,ze1,ze2,ze3,ze4,ze5,ze6,ze7,ze8,ze9,zf0,zf1,zf2,zf3,zf4,zf5,zf6,zf7,zf8,zf9,zg0,zg1,zg2,zg3,zg4,zg5,zg6,zg7,zg8,zg9,zh0,zh1,zh2,zh3,zh4,zh5,zh6,zh7,zh8,zh9,zi0,zi1,zi2,zi3,zi4,zi5,zi6,wSnil,zi7,zi8,zi9,zj0,zj1,zj2,zj3,zj4,zj5,zj6,zj7,zj8,AV.flatB,AV.flatBs,zj9,zk0,zk1,zk2,zk3,zk4,zk5,zk6,act,AV.cells,AV.mk,AV.asSl,AV.asInt,AV.vslOf,wIdx,zk7,zk8,zk9,zl0,zl1,zl2,zl3,st0,env0,zl4,zl5,zl6,Nat.reduceAdd,Nat.reduceEqDiff,Nat.reduceLeDiff,↓reduceIte,AV.ofV,unV,← decide_not,zl7,zl8,zl9,zm0,zm1,zm2,zm3,zm4,zm5,zm6,zm7,zm8,zm9,zn0,zn1,zn2,zn3,zn4,zn5,zn6,zn7,reduceCtorEq,rowsOf,pureCells,AV.weak,AV.pureB,AV.pureBs,zn8,zn9,zo0,zo1,zo2,Nat.reduceBEq,zo3,zo4,zo5,zo6,zo7,zo8,zo9,zp0,zp1,zp2,zp3,zp4,zp5,zp6,zp7,zp8,zp9,zq0,zq1]
    exact fin _ (b_f (by unfold OnceP; simp [h0]))
theorem exists_con (L : Lay P T) (l : List Item) (p : PatchS) (i : Int) (hl : l.length ≤ 1048576) : Con P T 102 [chg l p i] (.imm (.bool (decide (HasPlace l p.parent p.after)))) := by
  refine Con_of nul L.t_patch_change_exists [] [] (by exact Nat.le_of_ble_eq_true rfl) ?_
  show wCode _ b_patch_change_exists _ _ _ _
  have hn : (⟨#[]⟩ : Bs) = nilS := rfl
  simp -implicitDefEqProofs only [b_patch_change_exists,chg,PatchS.row,Item.row,splice,zq7,zq8,za9,za0,za1,za2,za3,za4,eff,AV.ptrOf,AV.tokOf,za5,za6,AV.weaks,AV.weak1,za7,za8,zb0,zb1,zb2,zb3,zb4,zb5,zb6,zb7,zb8,zb9,zc0,zc1,zc2,zc3,zc4,zc5,zc6,zc7,zc8,zc9,zd0,zd1,zd2,zd3,zd4,zd5,zd6,zd7,zd8,zd9,ze0,ze1,ze2,ze3,ze4,ze5,ze6,ze7,ze8,ze9,zf0,zf1,zf2,zf3,zf4,zf5,zf6,zf7,zf8,zf9,zg0,zg1,zg2,zg3,zg4,zg5,zg6,zg7,zg8,zg9,zh0,zh1,zh2,zh3,zh4,zh5,zh6,zh7,zh8,zh9,zi0,zi1,zi2,zi3,zi4,zi5,zi6,wSnil,zi7,zi8,zi9,zj0,zj1,zj2,zj3,zj4,zj5,zj6,zj7,zj8,AV.flatB,AV.flatBs,zj9,zk0,zk1,zk2,zk3,zk4,zk5,zk6,act,AV.cells,AV.mk,AV.asSl,AV.asInt,AV.vslOf,wIdx,zk7,zk8,zk9,zl0,zl1,zl2,zl3,st0,env0,zl4,zl5,zl6,Nat.reduceAdd,Nat.reduceEqDiff,Nat.reduceLeDiff,↓reduceIte,AV.ofV,unV,← decide_not,zl7,zl8,zl9,zm0,zm1,zm2,zm3,zm4,zm5,zm6,zm7,zm8,zm9,zn0,zn1,zn2,zn3,zn4,zn5,zn6,zn7,reduceCtorEq,rowsOf,pureCells,AV.weak,AV.pureB,AV.pureBs,zn8,zn9,zo0,zo1,zo2,Nat.reduceBEq,zo3,zo4,zo5,zo6,zo7,zo8,zo9,zp0,zp1]
  refine wDraw_cutV 0 [(1, .ptr 1 1 0), (3, .ptr 3 1 0)] [(1, 1), (3, 1)] [(1, .sl 7 .ro (l.map Item.row) :: p.row ++ [.imm (.int .i64 i)]), (3, p.row)] [] ?_ ?_
  · simp -implicitDefEqProofs only [Envs,Gens,Vars,PatchS.row,Item.row,zb0,za9,za0,za1,za2,za3,za4,eff,AV.ptrOf,AV.tokOf,za5,za6,AV.weaks,AV.weak1,za7,za8,zb1,zb2,zb3,zb4,zb5,zb6,zb7,zb8,zb9,zc0,zc1,zc2,zc3,zc4,zc5,zc6,zc7,zc8,zc9,zd0,zd1,zd2,zd3,zd4,zd5,zd6,zd7,zd8,zd9,ze0,ze1,ze2,ze3,ze4,ze5,ze6,ze7,ze8,ze9,zf0,zf1,zf2,zf3,zf4,zf5,zf6,zf7,zf8,zf9,zg0,zg1,zg2,zg3,zg4,zg5,zg6,zg7,zg8,zg9,zh0,zh1,zh2,zh3,zh4,zh5,zh6,zh7,zh8,zh9,zi0,zi1,zi2,zi3,zi4,zi5,zi6,wSnil,zi7,zi8,zi9,zj0,zj1,zj2,zj3,zj4,zj5,zj6,zj7,zj8,AV.flatB,AV.flatBs,zj9,zk0,zk1,zk2,zk3,zk4,zk5,zk6,act,AV.cells,AV.mk,AV.asSl,AV.asInt,AV.vslOf,wIdx,zk7,zk8,zk9,zl0,zl1,zl2,zl3,st0,env0,zl4,zl5,zl6,Nat.reduceAdd,Nat.reduceEqDiff,Nat.reduceLeDiff,↓reduceIte,AV.ofV,unV,← decide_not,zl7,zl8,zl9,zm0,zm1,zm2,zm3,zm4,zm5,zm6,zm7,zm8,zm9,zn0,zn1,zn2,zn3,zn4,zn5,zn6,zn7,reduceCtorEq,rowsOf,pureCells,AV.weak,AV.pureB,AV.pureBs,zn8,zn9,zo0,zo1,zo2,Nat.reduceBEq,zo3,zo4,zo5,zo6,zo7,zo8,zo9,zp0,zp1]
  rintro e g v tg tp x ⟨e1, e3, -⟩ ⟨g1, g3, -⟩ ⟨v1, v3, -⟩
  by_cases h1 : p.parent = ⟨#[]⟩
  · refine wDraw_cutV 12 [(1, .ptr 1 1 0), (3, .ptr 3 1 0), (17, .imm (.bool true))] [(1, 1), (3, 1)] [(1, .sl 7 .ro (l.map Item.row) :: p.row ++ [.imm (.int .i64 i)]), (3, p.row)] ?G ?h1 ?h2
    case h1 =>
      simp -implicitDefEqProofs only [h1,r_patch_change_exists_0,e1,e3,g1,g3,v1,v3,chg,PatchS.row,Item.row,undefA,zb0,za9,zq2,zq3,zq4,zq5,zq6,Envs,Gens,Vars,za0,za1,za2,za3,za4,eff,AV.ptrOf,AV.tokOf,za5,za6,AV.weaks,AV.weak1,za7,za8,zb1,zb2,zb3,zb4,zb5,zb6,zb7,zb8,zb9,zc0,zc1,zc2,zc3,zc4,zc5,zc6,zc7,zc8,zc9,zd0,zd1,zd2,zd3,zd4,zd5,zd6,zd7,zd8,zd9,ze0,ze1,ze2,ze3,ze4,ze5,ze6,ze7,ze8,ze9,zf0,zf1,zf2,zf3,zf4,zf5,zf6,zf7,zf8,zf9,zg0,zg1,zg2,zg3,zg4,zg5,zg6,zg7,zg8,zg9,zh0,zh1,zh2,zh3,zh4,zh5,zh6,zh7,zh8,zh9,zi0,zi1,zi2,zi3,zi4,zi5,zi6,wSnil,zi7,zi8,zi9,zj0,zj1,zj2,zj3,zj4,zj5,zj6,zj7,zj8,AV.flatB,AV.flatBs,zj9,zk0,zk1,zk2,zk3,zk4,zk5,zk6,act,AV.cells,AV.mk,AV.asSl,AV.asInt,AV.vslOf,wIdx,zk7,zk8,zk9,zl0,zl1,zl2,zl3,st0,env0,zl4,zl5,zl6,Nat.reduceAdd,Nat.reduceEqDiff,Nat.reduceLeDiff,↓reduceIte,AV.ofV,unV,← decide_not,zl7,zl8,zl9,zm0,zm1,zm2,zm3,zm4,zm5,zm6,zm7,zm8,zm9,zn0,zn1,zn2,zn3,zn4,zn5,zn6,zn7,reduceCtorEq,rowsOf,pureCells,AV.weak,AV.pureB,AV.pureBs,zn8,zn9,zo0,zo1,zo2,Nat.reduceBEq,zo3,zo4,zo5,zo6,zo7,zo8,zo9,zp0,zp1]
      exact rfl
    case h2 =>
      rintro e g v tg tp x ⟨e1, e3, k17, -⟩ ⟨g1, g3, -⟩ ⟨v1, v3, -⟩
      by_cases h3 : p.after = ⟨#[]⟩
      · simp -implicitDefEqProofs only [k17,h3,r_patch_change_exists_0,e1,e3,g1,g3,v1,v3,chg,PatchS.row,Item.row,undefA,zb0,za9,zq2,zq3,zq4,zq5,zq6,Envs,Gens,Vars,za0,za1,za2,za3,za4,eff,AV.ptrOf,AV.tokOf,za5,za6,AV.weaks,AV.weak1,za7,za8,zb1,zb2,zb3,zb4,zb5,zb6,zb7,zb8,zb9,zc0,zc1,zc2,zc3,zc4,zc5,zc6,zc7,zc8,zc9,zd0,zd1,zd2,zd3,zd4,zd5,zd6,zd7,zd8,zd9,ze0,ze1,ze2,ze3,ze4,ze5,ze6,ze7,ze8,ze9,zf0,zf1,zf2,zf3,zf4,zf5,zf6,zf7,zf8,zf9,zg0,zg1,zg2,zg3,zg4,zg5,zg6,zg7,zg8,zg9,zh0,zh1,zh2,zh3,zh4,zh5,zh6,zh7,zh8,zh9,zi0,zi1,zi2,zi3,zi4,zi5,zi6,wSnil,zi7,zi8,zi9,zj0,zj1,zj2,zj3,zj4,zj5,zj6,zj7,zj8,AV.flatB,AV.flatBs,zj9,zk0,zk1,zk2,zk3,zk4,zk5,zk6,act,AV.cells,AV.mk,AV.asSl,AV.asInt,AV.vslOf,wIdx,zk7,zk8,zk9,zl0,zl1,zl2,zl3,st0,env0,zl4,zl5,zl6,Nat.reduceAdd,Nat.reduceEqDiff,Nat.reduceLeDiff,↓reduceIte,AV.ofV,unV,← decide_not,zl7,zl8,zl9,zm0,zm1,zm2,zm3,zm4,zm5,zm6,zm7,zm8,zm9,zn0,zn1,zn2,zn3,zn4,zn5,zn6,zn7,reduceCtorEq,rowsOf,pureCells,AV.weak,AV.pureB,AV.pureBs,zn8,zn9,zo0,zo1,zo2,Nat.reduceBEq,zo3,zo4,zo5,zo6,zo7,zo8,zo9,zp0,zp1]
        simp -implicitDefEqProofs only [c_patch_change_exists,za0,za1,za2,za3,za4,eff,AV.ptrOf,AV.tokOf,za5,za6,AV.weaks,AV.weak1,za7,za8,za9,zb0,zb1,zb2,zb3,zb4,zb5,zb6,zb7,zb8,zb9,zc0,zc1,zc2,zc3,zc4,zc5,zc6,zc7,zc8,zc9,zd0,zd1,zd2,zd3,zd4,zd5,zd6,zd7,zd8,zd9,ze0,ze1,ze2,ze3,ze4,ze5,ze6,ze7,ze8,ze9,zf0,zf1,zf2,zf3,zf4,zf5,zf6,zf7,zf8,zf9,zg0,zg1,zg2,zg3,zg4,zg5,zg6,zg7,zg8,zg9,zh0,zh1,zh2,zh3,zh4,zh5,zh6,zh7,zh8,zh9,zi0,zi1,zi2,zi3,zi4,zi5,zi6,wSnil,zi7,zi8,zi9,zj0,zj1,zj2,zj3,zj4,zj5,zj6,zj7,zj8,AV.flatB,AV.flatBs,zj9,zk0,zk1,zk2,zk3,zk4,zk5,zk6,act,AV.cells,AV.mk,AV.asSl,AV.asInt,AV.vslOf,wIdx,zk7,zk8,zk9,zl0,zl1,zl2,zl3,st0,env0,zl4,zl5,zl6,Nat.reduceAdd,Nat.reduceEqDiff,Nat.reduceLeDiff,↓reduceIte,AV.ofV,unV,← decide_not,zl7,zl8,zl9,zm0,zm1,zm2,zm3,zm4,zm5,zm6,zm7,zm8,zm9,zn0,zn1,zn2,zn3,zn4,zn5,zn6,zn7,reduceCtorEq,rowsOf,pureCells,AV.weak,AV.pureB,AV.pureBs,zn8,zn9,zo0,zo1,zo2,Nat.reduceBEq,zo3,zo4,zo5,zo6,zo7,zo8,zo9,zp0,zp1,zp2,zp3,zp4,zp5,zp6,zp7,zp8,zp9,zq0,zq1]
        exact ⟨rfl, (decide_eq_true ⟨.inl h1, .inl rfl⟩).symm⟩
      · simp -implicitDefEqProofs only [k17,h3,r_patch_change_exists_0,e1,e3,g1,g3,v1,v3,chg,PatchS.row,Item.row,undefA,zb0,za9,zq2,zq3,zq4,zq5,zq6,Envs,Gens,Vars,za0,za1,za2,za3,za4,eff,AV.ptrOf,AV.tokOf,za5,za6,AV.weaks,AV.weak1,za7,za8,zb1,zb2,zb3,zb4,zb5,zb6,zb7,zb8,zb9,zc0,zc1,zc2,zc3,zc4,zc5,zc6,zc7,zc8,zc9,zd0,zd1,zd2,zd3,zd4,zd5,zd6,zd7,zd8,zd9,ze0,ze1,ze2,ze3,ze4,ze5,ze6,ze7,ze8,ze9,zf0,zf1,zf2,zf3,zf4,zf5,zf6,zf7,zf8,zf9,zg0,zg1,zg2,zg3,zg4,zg5,zg6,zg7,zg8,zg9,zh0,zh1,zh2,zh3,zh4,zh5,zh6,zh7,zh8,zh9,zi0,zi1,zi2,zi3,zi4,zi5,zi6,wSnil,zi7,zi8,zi9,zj0,zj1,zj2,zj3,zj4,zj5,zj6,zj7,zj8,AV.flatB,AV.flatBs,zj9,zk0,zk1,zk2,zk3,zk4,zk5,zk6,act,AV.cells,AV.mk,AV.asSl,AV.asInt,AV.vslOf,wIdx,zk7,zk8,zk9,zl0,zl1,zl2,zl3,st0,env0,zl4,zl5,zl6,Nat.reduceAdd,Nat.reduceEqDiff,Nat.reduceLeDiff,↓reduceIte,AV.ofV,unV,← decide_not,zl7,zl8,zl9,zm0,zm1,zm2,zm3,zm4,zm5,zm6,zm7,zm8,zm9,zn0,zn1,zn2,zn3,zn4,zn5,zn6,zn7,reduceCtorEq,rowsOf,pureCells,AV.weak,AV.pureB,AV.pureBs,zn8,zn9,zo0,zo1,zo2,Nat.reduceBEq,zo3,zo4,zo5,zo6,zo7,zo8,zo9,zp0,zp1]
        refine wCall_pure (item_con L l p i p.after hl) rfl rfl ?_ ?_
        · exact AV.les2_refl _
        by_cases h4 : (itemAt l p.after).kind = 0
        · simp -implicitDefEqProofs only [k17,h3,h4,r_patch_change_exists_0,e1,e3,g1,g3,v1,v3,chg,PatchS.row,Item.row,undefA,zb0,za9,zq2,zq3,zq4,zq5,zq6,Envs,Gens,Vars,za0,za1,za2,za3,za4,eff,AV.ptrOf,AV.tokOf,za5,za6,AV.weaks,AV.weak1,za7,za8,zb1,zb2,zb3,zb4,zb5,zb6,zb7,zb8,zb9,zc0,zc1,zc2,zc3,zc4,zc5,zc6,zc7,zc8,zc9,zd0,zd1,zd2,zd3,zd4,zd5,zd6,zd7,zd8,zd9,ze0,ze1,ze2,ze3,ze4,ze5,ze6,ze7,ze8,ze9,zf0,zf1,zf2,zf3,zf4,zf5,zf6,zf7,zf8,zf9,zg0,zg1,zg2,zg3,zg4,zg5,zg6,zg7,zg8,zg9,zh0,zh1,zh2,zh3,zh4,zh5,zh6,zh7,zh8,zh9,zi0,zi1,zi2,zi3,zi4,zi5,zi6,wSnil,zi7,zi8,zi9,zj0,zj1,zj2,zj3,zj4,zj5,zj6,zj7,zj8,AV.flatB,AV.flatBs,zj9,zk0,zk1,zk2,zk3,zk4,zk5,zk6,act,AV.cells,AV.mk,AV.asSl,AV.asInt,AV.vslOf,wIdx,zk7,zk8,zk9,zl0,zl1,zl2,zl3,st0,env0,zl4,zl5,zl6,Nat.reduceAdd,Nat.reduceEqDiff,Nat.reduceLeDiff,↓reduceIte,AV.ofV,unV,← decide_not,zl7,zl8,zl9,zm0,zm1,zm2,zm3,zm4,zm5,zm6,zm7,zm8,zm9,zn0,zn1,zn2,zn3,zn4,zn5,zn6,zn7,reduceCtorEq,rowsOf,pureCells,AV.weak,AV.pureB,AV.pureBs,zn8,zn9,zo0,zo1,zo2,Nat.reduceBEq,zo3,zo4,zo5,zo6,zo7,zo8,zo9,zp0,zp1]
          simp -implicitDefEqProofs only [c_patch_change_exists,za0,za1,za2,za3,za4,eff,AV.ptrOf,AV.tokOf,za5,za6,AV.weaks,AV.weak1,za7,za8,za9,zb0,zb1,zb2,zb3,zb4,zb5,zb6,zb7,zb8,zb9,zc0,zc1,zc2,zc3,zc4,zc5,zc6,zc7,zc8,zc9,zd0,zd1,zd2,zd3,zd4,zd5,zd6,zd7,zd8,zd9,ze0,ze1,ze2,ze3,ze4,ze5,ze6,ze7,ze8,ze9,zf0,zf1,zf2,zf3,zf4,zf5,zf6,zf7,zf8,zf9,zg0,zg1,zg2,zg3,zg4,zg5,zg6,zg7,zg8,zg9,zh0,zh1,zh2,zh3,zh4,zh5,zh6,zh7,zh8,zh9,zi0,zi1,zi2,zi3,zi4,zi5,zi6,wSnil,zi7,zi8,zi9,zj0,zj1,zj2,zj3,zj4,zj5,zj6,zj7,zj8,AV.flatB,AV.flatBs,zj9,zk0,zk1,zk2,zk3,zk4,zk5,zk6,act,AV.cells,AV.mk,AV.asSl,AV.asInt,AV.vslOf,wIdx,zk7,zk8,zk9,zl0,zl1,zl2,zl3,st0,env0,zl4,zl5,zl6,Nat.reduceAdd,Nat.reduceEqDiff,Nat.reduceLeDiff,↓reduceIte,AV.ofV,unV,← decide_not,zl7,zl8,zl9,zm0,zm1,zm2,zm3,zm4,zm5,zm6,zm7,zm8,zm9,zn0,zn1,zn2,zn3,zn4,zn5,zn6,zn7,reduceCtorEq,rowsOf,pureCells,AV.weak,AV.pureB,AV.pureBs,zn8,zn9,zo0,zo1,zo2,Nat.reduceBEq,zo3,zo4,zo5,zo6,zo7,zo8,zo9,zp0,zp1,zp2,zp3,zp4,zp5,zp6,zp7,zp8,zp9,zq0,zq1]
          exact ⟨rfl, (decide_eq_false fun h => (h.2.elim h3 fun h' => h'.1 h4)).symm⟩
        · simp -implicitDefEqProofs only [k17,h3,h4,r_patch_change_exists_0,e1,e3,g1,g3,v1,v3,chg,PatchS.row,Item.row,undefA,zb0,za9,zq2,zq3,zq4,zq5,zq6,Envs,Gens,Vars,za0,za1,za2,za3,za4,eff,AV.ptrOf,AV.tokOf,za5,za6,AV.weaks,AV.weak1,za7,za8,zb1,zb2,zb3,zb4,zb5,zb6,zb7,zb8,zb9,zc0,zc1,zc2,zc3,zc4,zc5,zc6,zc7,zc8,zc9,zd0,zd1,zd2,zd3,zd4,zd5,zd6,zd7,zd8,zd9,ze0,ze1,ze2,ze3,ze4,ze5,ze6,ze7,ze8,ze9,zf0,zf1,zf2,zf3,zf4,zf5,zf6,zf7,zf8,zf9,zg0,zg1,zg2,zg3,zg4,zg5,zg6,zg7,zg8,zg9,zh0,zh1,zh2,zh3,zh4,zh5,zh6,zh7,zh8,zh9,zi0,zi1,zi2,zi3,zi4,zi5,zi6,wSnil,zi7,zi8,zi9,zj0,zj1,zj2,zj3,zj4,zj5,zj6,zj7,zj8,AV.flatB,AV.flatBs,zj9,zk0,zk1,zk2,zk3,zk4,zk5,zk6,act,AV.cells,AV.mk,AV.asSl,AV.asInt,AV.vslOf,wIdx,zk7,zk8,zk9,zl0,zl1,zl2,zl3,st0,env0,zl4,zl5,zl6,Nat.reduceAdd,Nat.reduceEqDiff,Nat.reduceLeDiff,↓reduceIte,AV.ofV,unV,← decide_not,zl7,zl8,zl9,zm0,zm1,zm2,zm3,zm4,zm5,zm6,zm7,zm8,zm9,zn0,zn1,zn2,zn3,zn4,zn5,zn6,zn7,reduceCtorEq,rowsOf,pureCells,AV.weak,AV.pureB,AV.pureBs,zn8,zn9,zo0,zo1,zo2,Nat.reduceBEq,zo3,zo4,zo5,zo6,zo7,zo8,zo9,zp0,zp1]
          refine wCall_pure (item_con L l p i p.after hl) rfl rfl ?_ ?_
          · exact AV.les2_refl _
          simp -implicitDefEqProofs only [k17,h3,h4,r_patch_change_exists_0,e1,e3,g1,g3,v1,v3,chg,PatchS.row,Item.row,undefA,zb0,za9,zq2,zq3,zq4,zq5,zq6,Envs,Gens,Vars,za0,za1,za2,za3,za4,eff,AV.ptrOf,AV.tokOf,za5,za6,AV.weaks,AV.weak1,za7,za8,zb1,zb2,zb3,zb4,zb5,zb6,zb7,zb8,zb9,zc0,zc1,zc2,zc3,zc4,zc5,zc6,zc7,zc8,zc9,zd0,zd1,zd2,zd3,zd4,zd5,zd6,zd7,zd8,zd9,ze0,ze1,ze2,ze3,ze4,ze5,ze6,ze7,ze8,ze9,zf0,zf1,zf2,zf3,zf4,zf5,zf6,zf7,zf8,zf9,zg0,zg1,zg2,zg3,zg4,zg5,zg6,zg7,zg8,zg9,zh0,zh1,zh2,zh3,zh4,zh5,zh6,zh7,zh8,zh9,zi0,zi1,zi2,zi3,zi4,zi5,zi6,wSnil,zi7,zi8,zi9,zj0,zj1,zj2,zj3,zj4,zj5,zj6,zj7,zj8,AV.flatB,AV.flatBs,zj9,zk0,zk1,zk2,zk3,zk4,zk5,zk6,act,AV.cells,AV.mk,AV.asSl,AV.asInt,AV.vslOf,wIdx,zk7,zk8,zk9,zl0,zl1,zl2,zl3,st0,env0,zl4,zl5,zl6,Nat.reduceAdd,Nat.reduceEqDiff,Nat.reduceLeDiff,↓reduceIte,AV.ofV,unV,← decide_not,zl7,zl8,zl9,zm0,zm1,zm2,zm3,zm4,zm5,zm6,zm7,zm8,zm9,zn0,zn1,zn2,zn3,zn4,zn5,zn6,zn7,reduceCtorEq,rowsOf,pureCells,AV.weak,AV.pureB,AV.pureBs,zn8,zn9,zo0,zo1,zo2,Nat.reduceBEq,zo3,zo4,zo5,zo6,zo7,zo8,zo9,zp0,zp1]
          simp -implicitDefEqProofs only [c_patch_change_exists,za0,za1,za2,za3,za4,eff,AV.ptrOf,AV.tokOf,za5,za6,AV.weaks,AV.weak1,za7,za8,za9,zb0,zb1,zb2,zb3,zb4,zb5,zb6,zb7,zb8,zb9,zc0,zc1,zc2,zc3,zc4,zc5,zc6,zc7,zc8,zc9,zd0,zd1,zd2,zd3,zd4,zd5,zd6,zd7,zd8,zd9,ze0,ze1,ze2,ze3,ze4,ze5,ze6,ze7,ze8,ze9,zf0,zf1,zf2,zf3,zf4,zf5,zf6,zf7,zf8,zf9,zg0,zg1,zg2,zg3,zg4,zg5,zg6,zg7,zg8,zg9,zh0,zh1,zh2,zh3,zh4,zh5,zh6,zh7,zh8,zh9,zi0,zi1,zi2,zi3,zi4,zi5,zi6,wSnil,zi7,zi8,zi9,zj0,zj1,zj2,zj3,zj4,zj5,zj6,zj7,zj8,AV.flatB,AV.flatBs,zj9,zk0,zk1,zk2,zk3,zk4,zk5,zk6,act,AV.cells,AV.mk,AV.asSl,AV.asInt,AV.vslOf,wIdx,zk7,zk8,zk9,zl0,zl1,zl2,zl3,st0,env0,zl4,zl5,zl6,Nat.reduceAdd,Nat.reduceEqDiff,Nat.reduceLeDiff,↓reduceIte,AV.ofV,unV,← decide_not,zl7,zl8,zl9,zm0,zm1,zm2,zm3,zm4,zm5,zm6,zm7,zm8,zm9,zn0,zn1,zn2,zn3,zn4,zn5,zn6,zn7,reduceCtorEq,rowsOf,pureCells,AV.weak,AV.pureB,AV.pureBs,zn8,zn9,zo0,zo1,zo2,Nat.reduceBEq,zo3,zo4,zo5,zo6,zo7,zo8,zo9,zp0,zp1,zp2,zp3,zp4,zp5,zp6,zp7,zp8,zp9,zq0,zq1]
          exact ⟨rfl, decide_eq_decide.2 ⟨fun h => ⟨(.inl h1), .inr ⟨h4, h⟩⟩, fun h => (h.2.resolve_left h3).2⟩⟩
  · refine wDraw_cutV 12 [(1, .ptr 1 1 0), (3, .ptr 3 1 0), (17, .imm (.bool (decide ((itemAt l p.parent).kind = 1))))] [(1, 1), (3, 1)] [(1, .sl 7 .ro (l.map Item.row) :: p.row ++ [.imm (.int .i64 i)]), (3, p.row)] ?G2 ?h1 ?h2
    case h1 =>
      simp -implicitDefEqProofs only [h1,r_patch_change_exists_0,e1,e3,g1,g3,v1,v3,chg,PatchS.row,Item.row,undefA,zb0,za9,zq2,zq3,zq4,zq5,zq6,Envs,Gens,Vars,za0,za1,za2,za3,za4,eff,AV.ptrOf,AV.tokOf,za5,za6,AV.weaks,AV.weak1,za7,za8,zb1,zb2,zb3,zb4,zb5,zb6,zb7,zb8,zb9,zc0,zc1,zc2,zc3,zc4,zc5,zc6,zc7,zc8,zc9,zd0,zd1,zd2,zd3,zd4,zd5,zd6,zd7,zd8,zd9,ze0,ze1,ze2,ze3,ze4,ze5,ze6,ze7,ze8,ze9,zf0,zf1,zf2,zf3,zf4,zf5,zf6,zf7,zf8,zf9,zg0,zg1,zg2,zg3,zg4,zg5,zg6,zg7,zg8,zg9,zh0,zh1,zh2,zh3,zh4,zh5,zh6,zh7,zh8,zh9,zi0,zi1,zi2,zi3,zi4,zi5,zi6,wSnil,zi7,zi8,zi9,zj0,zj1,zj2,zj3,zj4,zj5,zj6,zj7,zj8,AV.flatB,AV.flatBs,zj9,zk0,zk1,zk2,zk3,zk4,zk5,zk6,act,AV.cells,AV.mk,AV.asSl,AV.asInt,AV.vslOf,wIdx,zk7,zk8,zk9,zl0,zl1,zl2,zl3,st0,env0,zl4,zl5,zl6,Nat.reduceAdd,Nat.reduceEqDiff,Nat.reduceLeDiff,↓reduceIte,AV.ofV,unV,← decide_not,zl7,zl8,zl9,zm0,zm1,zm2,zm3,zm4,zm5,zm6,zm7,zm8,zm9,zn0,zn1,zn2,zn3,zn4,zn5,zn6,zn7,reduceCtorEq,rowsOf,pureCells,AV.weak,AV.pureB,AV.pureBs,zn8,zn9,zo0,zo1,zo2,Nat.reduceBEq,zo3,zo4,zo5,zo6,zo7,zo8,zo9,zp0,zp1]
      refine wCall_pure (item_con L l p i p.parent hl) rfl rfl ?_ ?_
      · exact AV.les2_refl _
      simp -implicitDefEqProofs only [h1,r_patch_change_exists_0,e1,e3,g1,g3,v1,v3,chg,PatchS.row,Item.row,undefA,zb0,za9,zq2,zq3,zq4,zq5,zq6,Envs,Gens,Vars,za0,za1,za2,za3,za4,eff,AV.ptrOf,AV.tokOf,za5,za6,AV.weaks,AV.weak1,za7,za8,zb1,zb2,zb3,zb4,zb5,zb6,zb7,zb8,zb9,zc0,zc1,zc2,zc3,zc4,zc5,zc6,zc7,zc8,zc9,zd0,zd1,zd2,zd3,zd4,zd5,zd6,zd7,zd8,zd9,ze0,ze1,ze2,ze3,ze4,ze5,ze6,ze7,ze8,ze9,zf0,zf1,zf2,zf3,zf4,zf5,zf6,zf7,zf8,zf9,zg0,zg1,zg2,zg3,zg4,zg5,zg6,zg7,zg8,zg9,zh0,zh1,zh2,zh3,zh4,zh5,zh6,zh7,zh8,zh9,zi0,zi1,zi2,zi3,zi4,zi5,zi6,wSnil,zi7,zi8,zi9,zj0,zj1,zj2,zj3,zj4,zj5,zj6,zj7,zj8,AV.flatB,AV.flatBs,zj9,zk0,zk1,zk2,zk3,zk4,zk5,zk6,act,AV.cells,AV.mk,AV.asSl,AV.asInt,AV.vslOf,wIdx,zk7,zk8,zk9,zl0,zl1,zl2,zl3,st0,env0,zl4,zl5,zl6,Nat.reduceAdd,Nat.reduceEqDiff,Nat.reduceLeDiff,↓reduceIte,AV.ofV,unV,← decide_not,zl7,zl8,zl9,zm0,zm1,zm2,zm3,zm4,zm5,zm6,zm7,zm8,zm9,zn0,zn1,zn2,zn3,zn4,zn5,zn6,zn7,reduceCtorEq,rowsOf,pureCells,AV.weak,AV.pureB,AV.pureBs,zn8,zn9,zo0,zo1,zo2,Nat.reduceBEq,zo3,zo4,zo5,zo6,zo7,zo8,zo9,zp0,zp1]
      exact rfl
    case h2 =>
      rintro e g v tg tp x ⟨e1, e3, k17, -⟩ ⟨g1, g3, -⟩ ⟨v1, v3, -⟩
      by_cases h2 : (itemAt l p.parent).kind = 1
      · rw [decide_eq_true h2] at k17
        by_cases h3 : p.after = ⟨#[]⟩
        · simp -implicitDefEqProofs only [k17,h3,r_patch_change_exists_0,e1,e3,g1,g3,v1,v3,chg,PatchS.row,Item.row,undefA,zb0,za9,zq2,zq3,zq4,zq5,zq6,Envs,Gens,Vars,za0,za1,za2,za3,za4,eff,AV.ptrOf,AV.tokOf,za5,za6,AV.weaks,AV.weak1,za7,za8,zb1,zb2,zb3,zb4,zb5,zb6,zb7,zb8,zb9,zc0,zc1,zc2,zc3,zc4,zc5,zc6,zc7,zc8,zc9,zd0,zd1,zd2,zd3,zd4,zd5,zd6,zd7,zd8,zd9,ze0,ze1,ze2,ze3,ze4,ze5,ze6,ze7,ze8,ze9,zf0,zf1,zf2,zf3,zf4,zf5,zf6,zf7,zf8,zf9,zg0,zg1,zg2,zg3,zg4,zg5,zg6,zg7,zg8,zg9,zh0,zh1,zh2,zh3,zh4,zh5,zh6,zh7,zh8,zh9,zi0,zi1,zi2,zi3,zi4,zi5,zi6,wSnil,zi7,zi8,zi9,zj0,zj1,zj2,zj3,zj4,zj5,zj6,zj7,zj8,AV.flatB,AV.flatBs,zj9,zk0,zk1,zk2,zk3,zk4,zk5,zk6,act,AV.cells,AV.mk,AV.asSl,AV.asInt,AV.vslOf,wIdx,zk7,zk8,zk9,zl0,zl1,zl2,zl3,st0,env0,zl4,zl5,zl6,Nat.reduceAdd,Nat.reduceEqDiff,Nat.reduceLeDiff,↓reduceIte,AV.ofV,unV,← decide_not,zl7,zl8,zl9,zm0,zm1,zm2,zm3,zm4,zm5,zm6,zm7,zm8,zm9,zn0,zn1,zn2,zn3,zn4,zn5,zn6,zn7,reduceCtorEq,rowsOf,pureCells,AV.weak,AV.pureB,AV.pureBs,zn8,zn9,zo0,zo1,zo2,Nat.reduceBEq,zo3,zo4,zo5,zo6,zo7,zo8,zo9,zp0,zp1]
          simp -implicitDefEqProofs only [c_patch_change_exists,za0,za1,za2,za3,za4,eff,AV.ptrOf,AV.tokOf,za5,za6,AV.weaks,AV.weak1,za7,za8,za9,zb0,zb1,zb2,zb3,zb4,zb5,zb6,zb7,zb8,zb9,zc0,zc1,zc2,zc3,zc4,zc5,zc6,zc7,zc8,zc9,zd0,zd1,zd2,zd3,zd4,zd5,zd6,zd7,zd8,zd9,ze0,ze1,ze2,ze3,ze4,ze5,ze6,ze7,ze8,ze9,zf0,zf1,zf2,zf3,zf4,zf5,zf6,zf7,zf8,zf9,zg0,zg1,zg2,zg3,zg4,zg5,zg6,zg7,zg8,zg9,zh0,zh1,zh2,zh3,zh4,zh5,zh6,zh7,zh8,zh9,zi0,zi1,zi2,zi3,zi4,zi5,zi6,wSnil,zi7,zi8,zi9,zj0,zj1,zj2,zj3,zj4,zj5,zj6,zj7,zj8,AV.flatB,AV.flatBs,zj9,zk0,zk1,zk2,zk3,zk4,zk5,zk6,act,AV.cells,AV.mk,AV.asSl,AV.asInt,AV.vslOf,wIdx,zk7,zk8,zk9,zl0,zl1,zl2,zl3,st0,env0,zl4,zl5,zl6,Nat.reduceAdd,Nat.reduceEqDiff,Nat.reduceLeDiff,↓reduceIte,AV.ofV,unV,← decide_not,zl7,zl8,zl9,zm0,zm1,zm2,zm3,zm4,zm5,zm6,zm7,zm8,zm9,zn0,zn1,zn2,zn3,zn4,zn5,zn6,zn7,reduceCtorEq,rowsOf,pureCells,AV.weak,AV.pureB,AV.pureBs,zn8,zn9,zo0,zo1,zo2,Nat.reduceBEq,zo3,zo4,zo5,zo6,zo7,zo8,zo9,zp0,zp1,zp2,zp3,zp4,zp5,zp6,zp7,zp8,zp9,zq0,zq1]
          exact ⟨rfl, (decide_eq_true ⟨.inr h2, .inl rfl⟩).symm⟩
        · simp -implicitDefEqProofs only [k17,h3,r_patch_change_exists_0,e1,e3,g1,g3,v1,v3,chg,PatchS.row,Item.row,undefA,zb0,za9,zq2,zq3,zq4,zq5,zq6,Envs,Gens,Vars,za0,za1,za2,za3,za4,eff,AV.ptrOf,AV.tokOf,za5,za6,AV.weaks,AV.weak1,za7,za8,zb1,zb2,zb3,zb4,zb5,zb6,zb7,zb8,zb9,zc0,zc1,zc2,zc3,zc4,zc5,zc6,zc7,zc8,zc9,zd0,zd1,zd2,zd3,zd4,zd5,zd6,zd7,zd8,zd9,ze0,ze1,ze2,ze3,ze4,ze5,ze6,ze7,ze8,ze9,zf0,zf1,zf2,zf3,zf4,zf5,zf6,zf7,zf8,zf9,zg0,zg1,zg2,zg3,zg4,zg5,zg6,zg7,zg8,zg9,zh0,zh1,zh2,zh3,zh4,zh5,zh6,zh7,zh8,zh9,zi0,zi1,zi2,zi3,zi4,zi5,zi6,wSnil,zi7,zi8,zi9,zj0,zj1,zj2,zj3,zj4,zj5,zj6,zj7,zj8,AV.flatB,AV.flatBs,zj9,zk0,zk1,zk2,zk3,zk4,zk5,zk6,act,AV.cells,AV.mk,AV.asSl,AV.asInt,AV.vslOf,wIdx,zk7,zk8,zk9,zl0,zl1,zl2,zl3,st0,env0,zl4,zl5,zl6,Nat.reduceAdd,Nat.reduceEqDiff,Nat.reduceLeDiff,↓reduceIte,AV.ofV,unV,← decide_not,zl7,zl8,zl9,zm0,zm1,zm2,zm3,zm4,zm5,zm6,zm7,zm8,zm9,zn0,zn1,zn2,zn3,zn4,zn5,zn6,zn7,reduceCtorEq,rowsOf,pureCells,AV.weak,AV.pureB,AV.pureBs,zn8,zn9,zo0,zo1,zo2,Nat.reduceBEq,zo3,zo4,zo5,zo6,zo7,zo8,zo9,zp0,zp1]
          refine wCall_pure (item_con L l p i p.after hl) rfl rfl ?_ ?_
          · exact AV.les2_refl _
          by_cases h4 : (itemAt l p.after).kind = 0
          · simp -implicitDefEqProofs only [k17,h3,h4,r_patch_change_exists_0,e1,e3,g1,g3,v1,v3,chg,PatchS.row,Item.row,undefA,zb0,za9,zq2,zq3,zq4,zq5,zq6,Envs,Gens,Vars,za0,za1,za2,za3,za4,eff,AV.ptrOf,AV.tokOf,za5,za6,AV.weaks,AV.weak1,za7,za8,zb1,zb2,zb3,zb4,zb5,zb6,zb7,zb8,zb9,zc0,zc1,zc2,zc3,zc4,zc5,zc6,zc7,zc8,zc9,zd0,zd1,zd2,zd3,zd4,zd5,zd6,zd7,zd8,zd9,ze0,ze1,ze2,ze3,ze4,ze5,ze6,ze7,ze8,ze9,zf0,zf1,zf2,zf3,zf4,zf5,zf6,zf7,zf8,zf9,zg0,zg1,zg2,zg3,zg4,zg5,zg6,zg7,zg8,zg9,zh0,zh1,zh2,zh3,zh4,zh5,zh6,zh7,zh8,zh9,zi0,zi1,zi2,zi3,zi4,zi5,zi6,wSnil,zi7,zi8,zi9,zj0,zj1,zj2,zj3,zj4,zj5,zj6,zj7,zj8,AV.flatB,AV.flatBs,zj9,zk0,zk1,zk2,zk3,zk4,zk5,zk6,act,AV.cells,AV.mk,AV.asSl,AV.asInt,AV.vslOf,wIdx,zk7,zk8,zk9,zl0,zl1,zl2,zl3,st0,env0,zl4,zl5,zl6,Nat.reduceAdd,Nat.reduceEqDiff,Nat.reduceLeDiff,↓reduceIte,AV.ofV,unV,← decide_not,zl7,zl8,zl9,zm0,zm1,zm2,zm3,zm4,zm5,zm6,zm7,zm8,zm9,zn0,zn1,zn2,zn3,zn4,zn5,zn6,zn7,reduceCtorEq,rowsOf,pureCells,AV.weak,AV.pureB,AV.pureBs,zn8,zn9,zo0,zo1,zo2,Nat.reduceBEq,zo3,zo4,zo5,zo6,zo7,zo8,zo9,zp0,zp1]
            simp -implicitDefEqProofs only [c_patch_change_exists,za0,za1,za2,za3,za4,eff,AV.ptrOf,AV.tokOf,za5,za6,AV.weaks,AV.weak1,za7,za8,za9,zb0,zb1,zb2,zb3,zb4,zb5,zb6,zb7,zb8,zb9,zc0,zc1,zc2,zc3,zc4,zc5,zc6,zc7,zc8,zc9,zd0,zd1,zd2,zd3,zd4,zd5,zd6,zd7,zd8,zd9,ze0,ze1,ze2,ze3,ze4,ze5,ze6,ze7,ze8,ze9,zf0,zf1,zf2,zf3,zf4,zf5,zf6,zf7,zf8,zf9,zg0,zg1,zg2,zg3,zg4,zg5,zg6,zg7,zg8,zg9,zh0,zh1,zh2,zh3,zh4,zh5,zh6,zh7,zh8,zh9,zi0,zi1,zi2,zi3,zi4,zi5,zi6,wSnil,zi7,zi8,zi9,zj0,zj1,zj2,zj3,zj4,zj5,zj6,zj7,zj8,AV.flatB,AV.flatBs,zj9,zk0,zk1,zk2,zk3,zk4,zk5,zk6,act,AV.cells,AV.mk,AV.asSl,AV.asInt,AV.vslOf,wIdx,zk7,zk8,zk9,zl0,zl1,zl2,zl3,st0,env0,zl4,zl5,zl6,Nat.reduceAdd,Nat.reduceEqDiff,Nat.reduceLeDiff,↓reduceIte,AV.ofV,unV,← decide_not,zl7,zl8,zl9,zm0,zm1,zm2,zm3,zm4,zm5,zm6,zm7,zm8,zm9,zn0,zn1,zn2,zn3,zn4,zn5,zn6,zn7,reduceCtorEq,rowsOf,pureCells,AV.weak,AV.pureB,AV.pureBs,zn8,zn9,zo0,zo1,zo2,Nat.reduceBEq,zo3,zo4,zo5,zo6,zo7,zo8,zo9,zp0,zp1,zp2,zp3,zp4,zp5,zp6,zp7,zp8,zp9,zq0,zq1]
            exact ⟨rfl, (decide_eq_false fun h => (h.2.elim h3 fun h' => h'.1 h4)).symm⟩
          · simp -implicitDefEqProofs only [k17,h3,h4,r_patch_change_exists_0,e1,e3,g1,g3,v1,v3,chg,PatchS.row,Item.row,undefA,zb0,za9,zq2,zq3,zq4,zq5,zq6,Envs,Gens,Vars,za0,za1,za2,za3,za4,eff,AV.ptrOf,AV.tokOf,za5,za6,AV.weaks,AV.weak1,za7,za8,zb1,zb2,zb3,zb4,zb5,zb6,zb7,zb8,zb9,zc0,zc1,zc2,zc3,zc4,zc5,zc6,zc7,zc8,zc9,zd0,zd1,zd2,zd3,zd4,zd5,zd6,zd7,zd8,zd9,ze0,ze1,ze2,ze3,ze4,ze5,ze6,ze7,ze8,ze9,zf0,zf1,zf2,zf3,zf4,zf5,zf6,zf7,zf8,zf9,zg0,zg1,zg2,zg3,zg4,zg5,zg6,zg7,zg8,zg9,zh0,zh1,zh2,zh3,zh4,zh5,zh6,zh7,zh8,zh9,zi0,zi1,zi2,zi3,zi4,zi5,zi6,wSnil,zi7,zi8,zi9,zj0,zj1,zj2,zj3,zj4,zj5,zj6,zj7,zj8,AV.flatB,AV.flatBs,zj9,zk0,zk1,zk2,zk3,zk4,zk5,zk6,act,AV.cells,AV.mk,AV.asSl,AV.asInt,AV.vslOf,wIdx,zk7,zk8,zk9,zl0,zl1,zl2,zl3,st0,env0,zl4,zl5,zl6,Nat.reduceAdd,Nat.reduceEqDiff,Nat.reduceLeDiff,↓reduceIte,AV.ofV,unV,← decide_not,zl7,zl8,zl9,zm0,zm1,zm2,zm3,zm4,zm5,zm6,zm7,zm8,zm9,zn0,zn1,zn2,zn3,zn4,zn5,zn6,zn7,reduceCtorEq,rowsOf,pureCells,AV.weak,AV.pureB,AV.pureBs,zn8,zn9,zo0,zo1,zo2,Nat.reduceBEq,zo3,zo4,zo5,zo6,zo7,zo8,zo9,zp0,zp1]
            refine wCall_pure (item_con L l p i p.after hl) rfl rfl ?_ ?_
            · exact AV.les2_refl _
            simp -implicitDefEqProofs only [k17,h3,h4,r_patch_change_exists_0,e1,e3,g1,g3,v1,v3,chg,PatchS.row,Item.row,undefA,zb0,za9,zq2,zq3,zq4,zq5,zq6,Envs,Gens,Vars,za0,za1,za2,za3,za4,eff,AV.ptrOf,AV.tokOf,za5,za6,AV.weaks,AV.weak1,za7,za8,zb1,zb2,zb3,zb4,zb5,zb6,zb7,zb8,zb9,zc0,zc1,zc2,zc3,zc4,zc5,zc6,zc7,zc8,zc9,zd0,zd1,zd2,zd3,zd4,zd5,zd6,zd7,zd8,zd9,ze0,ze1,ze2,ze3,ze4,ze5,ze6,ze7,ze8,ze9,zf0,zf1,zf2,zf3,zf4,zf5,zf6,zf7,zf8,zf9,zg0,zg1,zg2,zg3,zg4,zg5,zg6,zg7,zg8,zg9,zh0,zh1,zh2,zh3,zh4,zh5,zh6,zh7,zh8,zh9,zi0,zi1,zi2,zi3,zi4,zi5,zi6,wSnil,zi7,zi8,zi9,zj0,zj1,zj2,zj3,zj4,zj5,zj6,zj7,zj8,AV.flatB,AV.flatBs,zj9,zk0,zk1,zk2,zk3,zk4,zk5,zk6,act,AV.cells,AV.mk,AV.asSl,AV.asInt,AV.vslOf,wIdx,zk7,zk8,zk9,zl0,zl1,zl2,zl3,st0,env0,zl4,zl5,zl6,Nat.reduceAdd,Nat.reduceEqDiff,Nat.reduceLeDiff,↓reduceIte,AV.ofV,unV,← decide_not,zl7,zl8,zl9,zm0,zm1,zm2,zm3,zm4,zm5,zm6,zm7,zm8,zm9,zn0,zn1,zn2,zn3,zn4,zn5,zn6,zn7,reduceCtorEq,rowsOf,pureCells,AV.weak,AV.pureB,AV.pureBs,zn8,zn9,zo0,zo1,zo2,Nat.reduceBEq,zo3,zo4,zo5,zo6,zo7,zo8,zo9,zp0,zp1]
            simp -implicitDefEqProofs only [c_patch_change_exists,za0,za1,za2,za3,za4,eff,AV.ptrOf,AV.tokOf,za5,za6,AV.weaks,AV.weak1,za7,za8,za9,zb0,zb1,zb2,zb3,zb4,zb5,zb6,zb7,zb8,zb9,zc0,zc1,zc2,zc3,zc4,zc5,zc6,zc7,zc8,zc9,zd0,zd1,zd2,zd3,zd4,zd5,zd6,zd7,zd8,zd9,ze0,ze1,ze2,ze3,ze4,ze5,ze6,ze7,ze8,ze9,zf0,zf1,zf2,zf3,zf4,zf5,zf6,zf7,zf8,zf9,zg0,zg1,zg2,zg3,zg4,zg5,zg6,zg7,zg8,zg9,zh0,zh1,zh2,zh3,zh4,zh5,zh6,zh7,zh8,zh9,zi0,zi1,zi2,zi3,zi4,zi5,zi6,wSnil,zi7,zi8,zi9,zj0,zj1,zj2,zj3,zj4,zj5,zj6,zj7,zj8,AV.flatB,AV.flatBs,zj9,zk0,zk1,zk2,zk3,zk4,zk5,zk6,act,AV.cells,AV.mk,AV.asSl,AV.asInt,AV.vslOf,wIdx,zk7,zk8,zk9,zl0,zl1,zl2,zl3,st0,env0,zl4,zl5,zl6,Nat.reduceAdd,Nat.reduceEqDiff,Nat.reduceLeDiff,↓reduceIte,AV.ofV,unV,← decide_not,zl7,zl8,zl9,zm0,zm1,zm2,zm3,zm4,zm5,zm6,zm7,zm8,zm9,zn0,zn1,zn2,zn3,zn4,zn5,zn6,zn7,reduceCtorEq,rowsOf,pureCells,AV.weak,AV.pureB,AV.pureBs,zn8,zn9,zo0,zo1,zo2,Nat.reduceBEq,zo3,zo4,zo5,zo6,zo7,zo8,zo9,zp0,zp1,zp2,zp3,zp4,zp5,zp6,zp7,zp8,zp9,zq0,zq1]
            exact ⟨rfl, decide_eq_decide.2 ⟨fun h => ⟨(.inr h2), .inr ⟨h4, h⟩⟩, fun h => (h.2.resolve_left h3).2⟩⟩
      · rw [decide_eq_false h2] at k17
        simp -implicitDefEqProofs only [k17,r_patch_change_exists_0,e1,e3,g1,g3,v1,v3,chg,PatchS.row,Item.row,undefA,zb0,za9,zq2,zq3,zq4,zq5,zq6,Envs,Gens,Vars,za0,za1,za2,za3,za4,eff,AV.ptrOf,AV.tokOf,za5,za6,AV.weaks,AV.weak1,za7,za8,zb1,zb2,zb3,zb4,zb5,zb6,zb7,zb8,zb9,zc0,zc1,zc2,zc3,zc4,zc5,zc6,zc7,zc8,zc9,zd0,zd1,zd2,zd3,zd4,zd5,zd6,zd7,zd8,zd9,ze0,ze1,ze2,ze3,ze4,ze5,ze6,ze7,ze8,ze9,zf0,zf1,zf2,zf3,zf4,zf5,zf6,zf7,zf8,zf9,zg0,zg1,zg2,zg3,zg4,zg5,zg6,zg7,zg8,zg9,zh0,zh1,zh2,zh3,zh4,zh5,zh6,zh7,zh8,zh9,zi0,zi1,zi2,zi3,zi4,zi5,zi6,wSnil,zi7,zi8,zi9,zj0,zj1,zj2,zj3,zj4,zj5,zj6,zj7,zj8,AV.flatB,AV.flatBs,zj9,zk0,zk1,zk2,zk3,zk4,zk5,zk6,act,AV.cells,AV.mk,AV.asSl,AV.asInt,AV.vslOf,wIdx,zk7,zk8,zk9,zl0,zl1,zl2,zl3,st0,env0,zl4,zl5,zl6,Nat.reduceAdd,Nat.reduceEqDiff,Nat.reduceLeDiff,↓reduceIte,AV.ofV,unV,← decide_not,zl7,zl8,zl9,zm0,zm1,zm2,zm3,zm4,zm5,zm6,zm7,zm8,zm9,zn0,zn1,zn2,zn3,zn4,zn5,zn6,zn7,reduceCtorEq,rowsOf,pureCells,AV.weak,AV.pureB,AV.pureBs,zn8,zn9,zo0,zo1,zo2,Nat.reduceBEq,zo3,zo4,zo5,zo6,zo7,zo8,zo9,zp0,zp1]
        simp -implicitDefEqProofs only [c_patch_change_exists,za0,za1,za2,za3,za4,eff,AV.ptrOf,AV.tokOf,za5,za6,AV.weaks,AV.weak1,za7,za8,za9,zb0,zb1,zb2,zb3,zb4,zb5,zb6,zb7,zb8,zb9,zc0,zc1,zc2,zc3,zc4,zc5,zc6,zc7,zc8,zc9,zd0,zd1,zd2,zd3,zd4,zd5,zd6,zd7,zd8,zd9,ze0,ze1,ze2,ze3,ze4,ze5,ze6,ze7,ze8,ze9,zf0,zf1,zf2,zf3,zf4,zf5,zf6,zf7,zf8,zf9,zg0,zg1,zg2,zg3,zg4,zg5,zg6,zg7,zg8,zg9,zh0,zh1,zh2,zh3,zh4,zh5,zh6,zh7,zh8,zh9,zi0,zi1,zi2,zi3,zi4,zi5,zi6,wSnil,zi7,zi8,zi9,zj0,zj1,zj2,zj3,zj4,zj5,zj6,zj7,zj8,AV.flatB,AV.flatBs,zj9,zk0,zk1,zk2,zk3,zk4,zk5,zk6,act,AV.cells,AV.mk,AV.asSl,AV.asInt,AV.vslOf,wIdx,zk7,zk8,zk9,zl0,zl1,zl2,zl3,st0,env0,zl4,zl5,zl6,Nat.reduceAdd,Nat.reduceEqDiff,Nat.reduceLeDiff,↓reduceIte,AV.ofV,unV,← decide_not,zl7,zl8,zl9,zm0,zm1,zm2,zm3,zm4,zm5,zm6,zm7,zm8,zm9,zn0,zn1,zn2,zn3,zn4,zn5,zn6,zn7,reduceCtorEq,rowsOf,pureCells,AV.weak,AV.pureB,AV.pureBs,zn8,zn9,zo0,zo1,zo2,Nat.reduceBEq,zo3,zo4,zo5,zo6,zo7,zo8,zo9,zp0,zp1,zp2,zp3,zp4,zp5,zp6,zp7,zp8,zp9,zq0,zq1]
        exact ⟨rfl, (decide_eq_false fun h => h.1.elim h1 h2).symm⟩
end Go.Av

namespace Go.Av
variable {P : Program} {T : List Nat} {σ : Type}
def fl (l : List Item) : List AV := (l.map Item.row).flatten
theorem fl_len (l : List Item) : (fl l).length = l.length * 7 := by unfold fl; rw [flat_len (rows_len l), List.length_map]
theorem fl_append (a b : List Item) : fl (a ++ b) = fl a ++ fl b := by simp [fl]
theorem fl_take (l : List Item) (i : Nat) : (fl l).take (i * 7) = fl (l.take i) := by
  rcases Nat.le_total i l.length with h | h
  · have e : fl l = fl (l.take i) ++ fl (l.drop i) := by rw [← fl_append, List.take_append_drop]
    have hl : (fl (l.take i)).length = i * 7 := by rw [fl_len]; simp; omega
    rw [e, List.take_append_of_le_length (by omega), List.take_of_length_le (by omega)]
  · rw [List.take_of_length_le (by rw [fl_len]; exact Nat.mul_le_mul_right _ h), List.take_of_length_le h]
theorem fl_drop (l : List Item) (i : Nat) : (fl l).drop (i * 7) = fl (l.drop i) := by
  rcases Nat.le_total i l.length with h | h
  · have e : fl l = fl (l.take i) ++ fl (l.drop i) := by rw [← fl_append, List.take_append_drop]
    have hl : (fl (l.take i)).length = i * 7 := by rw [fl_len]; simp; omega
    rw [e, List.drop_append_of_le_length (by omega), List.drop_of_length_le (by omega), List.nil_append]
  · rw [List.drop_of_length_le (by rw [fl_len]; exact Nat.mul_le_mul_right _ h), List.drop_of_length_le h]; rfl
theorem ins_grow {l xs : List Item} {i : Nat} {R : List AV} (hi : i ≤ l.length) (hR : R.length = (l.length + xs.length - i) * 7) : splice (padTo (splice (padTo ((fl l).take (i * 7) ++ R) (i * 7 + xs.length * 7)) (i * 7) (fl xs)) ((i + xs.length) * 7 + (l.length - i) * 7)) ((i + xs.length) * 7) (((fl l).drop (i * 7)).take ((l.length - i) * 7)) = fl (l.take i ++ (xs ++ l.drop i)) := by
  have h1 : (fl (l.take i)).length = i * 7 := by rw [fl_len, List.length_take, Nat.min_eq_left hi]
  have h2 : (fl (l.drop i)).length = (l.length - i) * 7 := by rw [fl_len, List.length_drop]
  rw [fl_take, fl_drop, List.take_of_length_le (l := fl (l.drop i)) (by omega), fl_append, fl_append]
  have := grow_cells (A := fl (l.take i)) (R := R) (x := fl xs) (D := fl (l.drop i)) (by rw [hR, fl_len, h2]; omega)
  rw [h1, h2, fl_len] at this
  rw [← this, Nat.add_mul]
theorem ins_inpl {l xs : List Item} {i : Nat} (hi : i ≤ l.length) : splice (padTo (splice (padTo (fl l) ((i + xs.length) * 7 + (l.length - i) * 7)) ((i + xs.length) * 7) (((fl l).drop (i * 7)).take ((l.length - i) * 7))) (i * 7 + xs.length * 7)) (i * 7) (fl xs) = fl (l.take i ++ (xs ++ l.drop i)) := by
  have h1 : (fl (l.take i)).length = i * 7 := by rw [fl_len, List.length_take, Nat.min_eq_left hi]
  have h2 : (fl (l.drop i)).length = (l.length - i) * 7 := by rw [fl_len, List.length_drop]
  have e : fl l = fl (l.take i) ++ fl (l.drop i) := by rw [← fl_append, List.take_append_drop]
  rw [fl_drop, List.take_of_length_le (l := fl (l.drop i)) (by omega), fl_append, fl_append]
  have := inplace_cells (A := fl (l.take i)) (x := fl xs) (D := fl (l.drop i))
  rw [h1, h2, fl_len] at this
  rw [← this, Nat.add_mul, ← e]
structure Ovl7 (P : Program) (T : List Nat) : Prop where
  prf : ∃ (f : Nat) (fn : Func) (tys : Array TypeId) (t e : TypeId) (ie : TypeInfo), opsOf P T 122 14 6 = .call { callee := .value (.func f), args := #[.tmp 61, .tmp 66], argTypes := tys } ∧ P.funcs[f]? = some fn ∧ fn.body = none ∧ (fn.name == "runtime.NumGoroutine") = false ∧
    Extern.findNext fn = none ∧ Extern.find fn = some (Extern.SlicesOverlaps.overlaps fn.params fn.resultTypes) ∧ fn.params[0]? = some t ∧ P.underlying t = some (.slice e) ∧ P.info? e = some ie
theorem ovl7_step (V : Ovl7 P T) {c : Cx σ} {st : St σ} {d g off n : Nat} {cp : Option Nat} {tok : Tok} {rows : List (List AV)} (hx : st.env 61 = .sl 7 tok rows) (hr : rows ≠ []) (hy : st.env 66 = .vsl d g 7 off n cp) (hg : g = st.gen d) : HStep P c (opsOf P T 122 14 6) st (fun u s => u = .imm (.bool false) ∧ s = st) := by
  obtain ⟨f, fn, tys, t, e, ie, e1, h1, h2, h3, h4, h5, h6, h7, h8⟩ := V.prf
  rw [e1]
  exact HStep_overlaps h1 h2 h3 h4 h5 h6 h7 h8 (by omega) hx hr hy hg
theorem wCpy_vv {st : St σ} {sz d g off n d2 g2 off2 n2 : Nat} {cp cp2 : Option Nat} {K : AV → St σ → Prop} (h1 : g = st.gen d) (h2 : 0 < n) (h3 : g2 = st.gen d2) (h4 : off2 + min n n2 * sz ≤ (st.var d2).length)
    (hK : K (.imm (.int .i64 (min n n2 : Nat))) { st with var := upd st.var d (splice (padTo (st.var d) (off + min n n2 * sz)) off (((st.var d2).drop off2).take (min n n2 * sz))) }) : wCpy st sz (.vsl d g sz off n cp) (.vsl d2 g2 sz off2 n2 cp2) K := by
  have e : min (min n n2 * sz) ((st.var d2).length - off2) = min n n2 * sz := by omega
  have e2 : st.src sz (some n) (.vsl d2 g2 sz off2 n2 cp2) = some (min n n2, ((st.var d2).drop off2).take (min n n2 * sz)) := by
    have : limTo (some n) n2 = min n n2 := by simp only [limTo,Nat.min_comm]
    simp only [St.src,AV.vslOf]
    rw [this, if_pos ⟨trivial, h3, h4⟩]
  simp only [wCpy,AV.vslOf,e2,List.length_take,List.length_drop,e]
  exact ⟨⟨trivial, h1, h2⟩, hK⟩
theorem wCpy_vs {st : St σ} {sz d g off n : Nat} {cp : Option Nat} {tok : Tok} {rows : List (List AV)} {K : AV → St σ → Prop} (h1 : g = st.gen d) (h2 : 0 < n)
    (hK : K (.imm (.int .i64 (min n rows.length : Nat))) { st with var := upd st.var d (splice (padTo (st.var d) (off + ((rows.take (min n rows.length)).flatten).length)) off ((rows.take (min n rows.length)).flatten)) }) : wCpy st sz (.vsl d g sz off n cp) (.sl sz tok rows) K := by
  have e2 : st.src sz (some n) (.sl sz tok rows) = some (min n rows.length, (rows.take (min n rows.length)).flatten) := by
    have : limTo (some n) rows.length = min n rows.length := by simp only [limTo,Nat.min_comm]
    simp only [St.src,AV.vslOf,AV.asSl,zo3]
    rw [this]
  simp only [wCpy,AV.vslOf,e2]
  exact ⟨⟨trivial, h1, h2⟩, hK⟩
theorem insert7_I (L : Lay P T) (V : Ovl7 P T) {O : Outs σ} {nt k0 : Nat} {th : List Nat} {fz : List (Nat × Nat × Nat)} (k : Nat) {st : St σ} {l xs : List Item} {i : Nat} {tok : Tok} (hl : l.length ≤ 100000) (hxl : xs.length ≤ 100000) (hx : 0 < xs.length) (hi : i ≤ l.length)
    (hg1 : 1 ≤ st.gen (k + 90)) (hv : st.var (k + 90) = fl l) :
    (sys O P T nt k0 th fz).I 122 [.vsl (k + 90) (st.gen (k + 90)) 7 0 l.length none, .imm (.int .i64 i), .sl 7 tok (xs.map Item.row)] st (fun r s => ∃ cp, r = .vsl (k + 90) (s.gen (k + 90)) 7 0 (l.length + xs.length) cp ∧ 1 ≤ s.gen (k + 90) ∧ s.var (k + 90) = fl (l.take i ++ (xs ++ l.drop i)) ∧ Oth k (k + 91) st s) := by
  refine I_cap fun cc hcc hcm => ?_
  have hfx : ((xs.map Item.row).flatten).length = xs.length * 7 := fl_len xs
  have hfl := fl_len l
  have hn : IntKind.i64.wrap ((l.length : Int) + xs.length) = ((l.length + xs.length : Nat) : Int) := by rw [IntWalk.i64_in _ (by omega)]; rfl
  have hi1 : IntKind.i64.wrap ((i : Int) + xs.length) = ((i + xs.length : Nat) : Int) := by rw [IntWalk.i64_in _ (by omega)]; rfl
  have hd : IntKind.i64.wrap (((l.length + xs.length : Nat) : Int) - i) = ((l.length + xs.length - i : Nat) : Int) := by rw [IntWalk.i64_in _ (by omega)]; omega
  have hx0 : ¬ (xs.length : Int) = 0 := by omega
  rcases Nat.lt_or_ge i l.length with hlt | hge
  · rcases Nat.lt_or_ge cc (l.length + xs.length) with hc | hc
    · refine I_ren (k + 90) (F := fun r s => ∃ cp, r = .vsl (k + 40) (s.gen (k + 40)) 7 0 (l.length + xs.length) cp ∧ s.var (k + 40) = fl (l.take i ++ (xs ++ l.drop i)) ∧ 1 ≤ s.gen (k + 40) ∧ Oth k (k + 91) st s) ?_ ?_
      · refine I_of L.t_slices_Insert k [] [] (by exact Nat.le_of_ble_eq_true rfl) ?_
        show wCode _ (b_slices_Insert _) _ _ _ _
        obtain ⟨e0, g0, v0, tg0, tp0, x0⟩ := st
        simp only at hv hg1
        simp -implicitDefEqProofs only [b_slices_Insert,za0,za1,za2,za3,za4,eff,AV.ptrOf,AV.tokOf,za5,za6,AV.weaks,AV.weak1,za7,za8,za9,zb0,zb1,zb2,zb3,zb4,zb5,zb6,zb7,zb8,zb9,zc0,zc1,zc2,zc3,zc4,zc5,zc6,zc7,zc8,zc9,zd0,zd1,zd2,zd3,zd4,zd5,zd6,zd7,zd8,zd9,ze0,ze1,ze2,ze3,ze4,ze5,ze6,ze7,ze8,ze9,zf0,zf1,zf2,zf3,zf4,zf5,zf6,zf7,zf8,zf9,zg0,zg1,zg2,zg3,zg4,zg5,zg6,zg7,zg8,zg9,zh0,zh1,zh2,zh3,zh4,zh5,zh6,zh7,zh8,zh9,zi0,zi1,zi2,zi3,zi4,zi5,zi6,wSnil,zi7,zi8,zi9,zj0,zj1,zj2,zj3,zj4,zj5,zj6,zj7,zj8,AV.flatB,AV.flatBs,zj9,zk0,zk1,zk2,zk3,zk4,zk5,zk6,act,AV.cells,AV.mk,AV.asSl,AV.asInt,AV.vslOf,wIdx,zk7,zk8,zk9,zl0,zl1,zl2,zl3,st0,env0,zl4,zl5,zl6,Nat.reduceAdd,Nat.reduceEqDiff,Nat.reduceLeDiff,↓reduceIte,AV.ofV,unV,← decide_not,zl7,zl8,zl9,zm0,zm1,zm2,zm3,zm4,zm5,zm6,zm7,zm8,zm9,zn0,zn1,zn2,zn3,zn4,zn5,zn6,zn7,reduceCtorEq,rowsOf,pureCells,AV.weak,AV.pureB,AV.pureBs,zn8,zn9,zo0,zo1,zo2,Nat.reduceBEq,zo3,zo4,zo5,zo6,zo7,zo8,zo9,zp0,zp1,boundOf,Option.map_none,slcTok,Int.cast_ofNat_Int,Int.toNat_zero,zq9,hn,hi1,hd,hx0,zr0,Int.toNat_sub,Nat.sub_zero,Int.sub_zero,Nat.zero_mul]
        have he : i + (l.length + xs.length - i) = l.length + xs.length := by omega
        have he2 : l.length + xs.length - (i + xs.length) = l.length - i := by omega
        refine ⟨⟨by omega, by omega, by omega⟩, fun h => h.elim, fun _ => ⟨fun h => absurd h (by omega), fun _ => ⟨fun _ => ⟨⟨by omega, by omega, by omega⟩, ?_⟩, fun h => absurd h (by omega)⟩⟩⟩
        simp -implicitDefEqProofs only [wAppz,za0,za1,za2,za3,za4,eff,AV.ptrOf,AV.tokOf,za5,za6,AV.weaks,AV.weak1,za7,za8,za9,zb0,zb1,zb2,zb3,zb4,zb5,zb6,zb7,zb8,zb9,zc0,zc1,zc2,zc3,zc4,zc5,zc6,zc7,zc8,zc9,zd0,zd1,zd2,zd3,zd4,zd5,zd6,zd7,zd8,zd9,ze0,ze1,ze2,ze3,ze4,ze5,ze6,ze7,ze8,ze9,zf0,zf1,zf2,zf3,zf4,zf5,zf6,zf7,zf8,zf9,zg0,zg1,zg2,zg3,zg4,zg5,zg6,zg7,zg8,zg9,zh0,zh1,zh2,zh3,zh4,zh5,zh6,zh7,zh8,zh9,zi0,zi1,zi2,zi3,zi4,zi5,zi6,wSnil,zi7,zi8,zi9,zj0,zj1,zj2,zj3,zj4,zj5,zj6,zj7,zj8,AV.flatB,AV.flatBs,zj9,zk0,zk1,zk2,zk3,zk4,zk5,zk6,act,AV.cells,AV.mk,AV.asSl,AV.asInt,AV.vslOf,wIdx,zk7,zk8,zk9,zl0,zl1,zl2,zl3,st0,env0,zl4,zl5,zl6,Nat.reduceAdd,Nat.reduceEqDiff,Nat.reduceLeDiff,↓reduceIte,AV.ofV,unV,← decide_not,zl7,zl8,zl9,zm0,zm1,zm2,zm3,zm4,zm5,zm6,zm7,zm8,zm9,zn0,zn1,zn2,zn3,zn4,zn5,zn6,zn7,reduceCtorEq,rowsOf,pureCells,AV.weak,AV.pureB,AV.pureBs,zn8,zn9,zo0,zo1,zo2,Nat.reduceBEq,zo3,zo4,zo5,zo6,zo7,zo8,zo9,zp0,zp1,boundOf,Option.map_none,slcTok,Int.cast_ofNat_Int,Int.toNat_zero,zq9,hn,hi1,hd,hx0,he,he2,hv,zr0,Int.toNat_sub,Nat.sub_zero,Int.sub_zero,Nat.zero_mul]
        refine ⟨⟨by omega, by omega, by omega, by omega⟩, ⟨by omega, by omega, by omega⟩, wCpy_vs (by simp [upd]) (by omega) ?_⟩
        have hm : min (l.length + xs.length - i) xs.length = xs.length := by omega
        have ht : (xs.map Item.row).take xs.length = xs.map Item.row := List.take_of_length_le (by simp)
        simp -implicitDefEqProofs only [hm,ht,hfx,wAppz,za0,za1,za2,za3,za4,eff,AV.ptrOf,AV.tokOf,za5,za6,AV.weaks,AV.weak1,za7,za8,za9,zb0,zb1,zb2,zb3,zb4,zb5,zb6,zb7,zb8,zb9,zc0,zc1,zc2,zc3,zc4,zc5,zc6,zc7,zc8,zc9,zd0,zd1,zd2,zd3,zd4,zd5,zd6,zd7,zd8,zd9,ze0,ze1,ze2,ze3,ze4,ze5,ze6,ze7,ze8,ze9,zf0,zf1,zf2,zf3,zf4,zf5,zf6,zf7,zf8,zf9,zg0,zg1,zg2,zg3,zg4,zg5,zg6,zg7,zg8,zg9,zh0,zh1,zh2,zh3,zh4,zh5,zh6,zh7,zh8,zh9,zi0,zi1,zi2,zi3,zi4,zi5,zi6,wSnil,zi7,zi8,zi9,zj0,zj1,zj2,zj3,zj4,zj5,zj6,zj7,zj8,AV.flatB,AV.flatBs,zj9,zk0,zk1,zk2,zk3,zk4,zk5,zk6,act,AV.cells,AV.mk,AV.asSl,AV.asInt,AV.vslOf,wIdx,zk7,zk8,zk9,zl0,zl1,zl2,zl3,st0,env0,zl4,zl5,zl6,Nat.reduceAdd,Nat.reduceEqDiff,Nat.reduceLeDiff,↓reduceIte,AV.ofV,unV,← decide_not,zl7,zl8,zl9,zm0,zm1,zm2,zm3,zm4,zm5,zm6,zm7,zm8,zm9,zn0,zn1,zn2,zn3,zn4,zn5,zn6,zn7,reduceCtorEq,rowsOf,pureCells,AV.weak,AV.pureB,AV.pureBs,zn8,zn9,zo0,zo1,zo2,Nat.reduceBEq,zo3,zo4,zo5,zo6,zo7,zo8,zo9,zp0,zp1,boundOf,Option.map_none,slcTok,Int.cast_ofNat_Int,Int.toNat_zero,zq9,hn,hi1,hd,hx0,he,he2,hv,zr0,Int.toNat_sub,Nat.sub_zero,Int.sub_zero,Nat.zero_mul]
        refine ⟨⟨by omega, by omega, by omega⟩, ⟨by omega, by omega, by omega⟩, wCpy_vv (by simp [upd]) (by omega) (by simp [upd]) (by simp [upd, hv]; omega) ?_⟩
        have hm2 : min (l.length - i) (l.length - i) = l.length - i := by omega
        simp -implicitDefEqProofs only [hm2,c_slices_Insert,zp2,zp3,zp4,zp5,zp6,zp7,zp8,zp9,zq0,zq1,zl4,Nat.reduceEqDiff,↓reduceIte,zm0,wAppz,za0,za1,za2,za3,za4,eff,AV.ptrOf,AV.tokOf,za5,za6,AV.weaks,AV.weak1,za7,za8,za9,zb0,zb1,zb2,zb3,zb4,zb5,zb6,zb7,zb8,zb9,zc0,zc1,zc2,zc3,zc4,zc5,zc6,zc7,zc8,zc9,zd0,zd1,zd2,zd3,zd4,zd5,zd6,zd7,zd8,zd9,ze0,ze1,ze2,ze3,ze4,ze5,ze6,ze7,ze8,ze9,zf0,zf1,zf2,zf3,zf4,zf5,zf6,zf7,zf8,zf9,zg0,zg1,zg2,zg3,zg4,zg5,zg6,zg7,zg8,zg9,zh0,zh1,zh2,zh3,zh4,zh5,zh6,zh7,zh8,zh9,zi0,zi1,zi2,zi3,zi4,zi5,zi6,wSnil,zi7,zi8,zi9,zj0,zj1,zj2,zj3,zj4,zj5,zj6,zj7,zj8,AV.flatB,AV.flatBs,zj9,zk0,zk1,zk2,zk3,zk4,zk5,zk6,act,AV.cells,AV.mk,AV.asSl,AV.asInt,AV.vslOf,wIdx,zk7,zk8,zk9,zl0,zl1,zl2,zl3,st0,env0,zl5,zl6,Nat.reduceAdd,Nat.reduceLeDiff,AV.ofV,unV,← decide_not,zl7,zl8,zl9,zm1,zm2,zm3,zm4,zm5,zm6,zm7,zm8,zm9,zn0,zn1,zn2,zn3,zn4,zn5,zn6,zn7,reduceCtorEq,rowsOf,pureCells,AV.weak,AV.pureB,AV.pureBs,zn8,zn9,zo0,zo1,zo2,Nat.reduceBEq,zo3,zo4,zo5,zo6,zo7,zo8,zo9,zp0,zp1,boundOf,Option.map_none,slcTok,Int.cast_ofNat_Int,Int.toNat_zero,zq9,hn,hi1,hd,hx0,he,he2,hv,zr0,Int.toNat_sub,Nat.sub_zero,Int.sub_zero,Nat.zero_mul]
        refine ⟨rfl, none, rfl, ?_, rfl, fun j hj => ?_⟩
        · exact ins_grow hi (by simp)
        · simp only [upd_eq, if_neg (show j ≠ k + 40 by omega), and_self]
      · rintro r s ⟨cp, rfl, h2, h3, h4⟩
        refine ⟨k + 40, 7, _, cp, rfl, cp, ?_⟩
        obtain ⟨e, g, v, tg, tp, x'⟩ := s
        simp only [St.kill,St.newVar,zl4,zp0,Nat.add_right_inj,Nat.reduceEqDiff,zo3,zo4] at *
        refine ⟨trivial, by omega, h2, h4.1, fun j hj => ?_⟩
        simp only [upd_eq, if_neg (show j ≠ k + 40 by omega), if_neg (show j ≠ k + 90 by omega)]
        exact h4.2 j hj
    · refine I_of L.t_slices_Insert k [] [] (by exact Nat.le_of_ble_eq_true rfl) ?_
      show wCode _ (b_slices_Insert _) _ _ _ _
      obtain ⟨e0, g0, v0, tg0, tp0, x0⟩ := st
      simp only at hv hg1
      have he2 : l.length + xs.length - (i + xs.length) = l.length - i := by omega
      simp -implicitDefEqProofs only [b_slices_Insert,wAppz,za0,za1,za2,za3,za4,eff,AV.ptrOf,AV.tokOf,za5,za6,AV.weaks,AV.weak1,za7,za8,za9,zb0,zb1,zb2,zb3,zb4,zb5,zb6,zb7,zb8,zb9,zc0,zc1,zc2,zc3,zc4,zc5,zc6,zc7,zc8,zc9,zd0,zd1,zd2,zd3,zd4,zd5,zd6,zd7,zd8,zd9,ze0,ze1,ze2,ze3,ze4,ze5,ze6,ze7,ze8,ze9,zf0,zf1,zf2,zf3,zf4,zf5,zf6,zf7,zf8,zf9,zg0,zg1,zg2,zg3,zg4,zg5,zg6,zg7,zg8,zg9,zh0,zh1,zh2,zh3,zh4,zh5,zh6,zh7,zh8,zh9,zi0,zi1,zi2,zi3,zi4,zi5,zi6,wSnil,zi7,zi8,zi9,zj0,zj1,zj2,zj3,zj4,zj5,zj6,zj7,zj8,AV.flatB,AV.flatBs,zj9,zk0,zk1,zk2,zk3,zk4,zk5,zk6,act,AV.cells,AV.mk,AV.asSl,AV.asInt,AV.vslOf,wIdx,zk7,zk8,zk9,zl0,zl1,zl2,zl3,st0,env0,zl4,zl5,zl6,Nat.reduceAdd,Nat.reduceEqDiff,Nat.reduceLeDiff,↓reduceIte,AV.ofV,unV,← decide_not,zl7,zl8,zl9,zm0,zm1,zm2,zm3,zm4,zm5,zm6,zm7,zm8,zm9,zn0,zn1,zn2,zn3,zn4,zn5,zn6,zn7,reduceCtorEq,rowsOf,pureCells,AV.weak,AV.pureB,AV.pureBs,zn8,zn9,zo0,zo1,zo2,Nat.reduceBEq,zo3,zo4,zo5,zo6,zo7,zo8,zo9,zp0,zp1,boundOf,Option.map_none,slcTok,Int.cast_ofNat_Int,Int.toNat_zero,zq9,hn,hi1,hd,hx0,he2,hv,zr0,Int.toNat_sub,Nat.sub_zero,Int.sub_zero,Nat.zero_mul]
      refine ⟨⟨by omega, by omega, by omega⟩, fun h => h.elim, fun _ => ⟨fun h => absurd h (by omega), fun _ => ⟨fun h => absurd h (by omega), fun _ => ⟨⟨by omega, by omega, by omega⟩, ⟨by omega, by omega, by omega⟩, ?_⟩⟩⟩⟩
      refine ⟨rfl, _, fun c _ => ovl7_step V (tok := tok) (rows := xs.map Item.row) (d := k + 90) (g := g0 (k + 90)) (off := (i + xs.length) * 7) (n := l.length - i) (cp := some (cc - (i + xs.length))) (by simp [upd]) (by intro h; rw [List.map_eq_nil_iff] at h; subst h; simp at hx) (by simp [upd]) rfl, ?_⟩
      rintro _ s ⟨rfl, rfl⟩
      simp -implicitDefEqProofs only [wAppz,za0,za1,za2,za3,za4,eff,AV.ptrOf,AV.tokOf,za5,za6,AV.weaks,AV.weak1,za7,za8,za9,zb0,zb1,zb2,zb3,zb4,zb5,zb6,zb7,zb8,zb9,zc0,zc1,zc2,zc3,zc4,zc5,zc6,zc7,zc8,zc9,zd0,zd1,zd2,zd3,zd4,zd5,zd6,zd7,zd8,zd9,ze0,ze1,ze2,ze3,ze4,ze5,ze6,ze7,ze8,ze9,zf0,zf1,zf2,zf3,zf4,zf5,zf6,zf7,zf8,zf9,zg0,zg1,zg2,zg3,zg4,zg5,zg6,zg7,zg8,zg9,zh0,zh1,zh2,zh3,zh4,zh5,zh6,zh7,zh8,zh9,zi0,zi1,zi2,zi3,zi4,zi5,zi6,wSnil,zi7,zi8,zi9,zj0,zj1,zj2,zj3,zj4,zj5,zj6,zj7,zj8,AV.flatB,AV.flatBs,zj9,zk0,zk1,zk2,zk3,zk4,zk5,zk6,act,AV.cells,AV.mk,AV.asSl,AV.asInt,AV.vslOf,wIdx,zk7,zk8,zk9,zl0,zl1,zl2,zl3,st0,env0,zl4,zl5,zl6,Nat.reduceAdd,Nat.reduceEqDiff,Nat.reduceLeDiff,↓reduceIte,AV.ofV,unV,← decide_not,zl7,zl8,zl9,zm0,zm1,zm2,zm3,zm4,zm5,zm6,zm7,zm8,zm9,zn0,zn1,zn2,zn3,zn4,zn5,zn6,zn7,reduceCtorEq,rowsOf,pureCells,AV.weak,AV.pureB,AV.pureBs,zn8,zn9,zo0,zo1,zo2,Nat.reduceBEq,zo3,zo4,zo5,zo6,zo7,zo8,zo9,zp0,zp1,boundOf,Option.map_none,slcTok,Int.cast_ofNat_Int,Int.toNat_zero,zq9,hn,hi1,hd,hx0,he2,hv,zr0,Int.toNat_sub,Nat.sub_zero,Int.sub_zero,Nat.zero_mul]
      refine ⟨⟨by omega, by omega, by omega⟩, ⟨by omega, by omega, by omega⟩, wCpy_vv rfl (by omega) rfl (by simp only [hv]; omega) ?_⟩
      have hm2 : min (l.length - i) (l.length + xs.length - i) = l.length - i := by omega
      simp -implicitDefEqProofs only [hm2,wAppz,za0,za1,za2,za3,za4,eff,AV.ptrOf,AV.tokOf,za5,za6,AV.weaks,AV.weak1,za7,za8,za9,zb0,zb1,zb2,zb3,zb4,zb5,zb6,zb7,zb8,zb9,zc0,zc1,zc2,zc3,zc4,zc5,zc6,zc7,zc8,zc9,zd0,zd1,zd2,zd3,zd4,zd5,zd6,zd7,zd8,zd9,ze0,ze1,ze2,ze3,ze4,ze5,ze6,ze7,ze8,ze9,zf0,zf1,zf2,zf3,zf4,zf5,zf6,zf7,zf8,zf9,zg0,zg1,zg2,zg3,zg4,zg5,zg6,zg7,zg8,zg9,zh0,zh1,zh2,zh3,zh4,zh5,zh6,zh7,zh8,zh9,zi0,zi1,zi2,zi3,zi4,zi5,zi6,wSnil,zi7,zi8,zi9,zj0,zj1,zj2,zj3,zj4,zj5,zj6,zj7,zj8,AV.flatB,AV.flatBs,zj9,zk0,zk1,zk2,zk3,zk4,zk5,zk6,act,AV.cells,AV.mk,AV.asSl,AV.asInt,AV.vslOf,wIdx,zk7,zk8,zk9,zl0,zl1,zl2,zl3,st0,env0,zl4,zl5,zl6,Nat.reduceAdd,Nat.reduceEqDiff,Nat.reduceLeDiff,↓reduceIte,AV.ofV,unV,← decide_not,zl7,zl8,zl9,zm0,zm1,zm2,zm3,zm4,zm5,zm6,zm7,zm8,zm9,zn0,zn1,zn2,zn3,zn4,zn5,zn6,zn7,reduceCtorEq,rowsOf,pureCells,AV.weak,AV.pureB,AV.pureBs,zn8,zn9,zo0,zo1,zo2,Nat.reduceBEq,zo3,zo4,zo5,zo6,zo7,zo8,zo9,zp0,zp1,boundOf,Option.map_none,slcTok,Int.cast_ofNat_Int,Int.toNat_zero,zq9,hn,hi1,hd,hx0,he2,hv,zr0,Int.toNat_sub,Nat.sub_zero,Int.sub_zero,Nat.zero_mul]
      refine ⟨rfl, ⟨by omega, by omega, by omega⟩, wCpy_vs (by simp [upd]) (by omega) ?_⟩
      have hm : min (l.length + xs.length - i) xs.length = xs.length := by omega
      have ht : (xs.map Item.row).take xs.length = xs.map Item.row := List.take_of_length_le (by simp)
      simp -implicitDefEqProofs only [c_slices_Insert,zp2,zp3,zp4,zp5,zp6,zp7,zp8,zp9,zq0,zq1,zl4,Nat.reduceEqDiff,↓reduceIte,zm0,wAppz,za0,za1,za2,za3,za4,eff,AV.ptrOf,AV.tokOf,za5,za6,AV.weaks,AV.weak1,za7,za8,za9,zb0,zb1,zb2,zb3,zb4,zb5,zb6,zb7,zb8,zb9,zc0,zc1,zc2,zc3,zc4,zc5,zc6,zc7,zc8,zc9,zd0,zd1,zd2,zd3,zd4,zd5,zd6,zd7,zd8,zd9,ze0,ze1,ze2,ze3,ze4,ze5,ze6,ze7,ze8,ze9,zf0,zf1,zf2,zf3,zf4,zf5,zf6,zf7,zf8,zf9,zg0,zg1,zg2,zg3,zg4,zg5,zg6,zg7,zg8,zg9,zh0,zh1,zh2,zh3,zh4,zh5,zh6,zh7,zh8,zh9,zi0,zi1,zi2,zi3,zi4,zi5,zi6,wSnil,zi7,zi8,zi9,zj0,zj1,zj2,zj3,zj4,zj5,zj6,zj7,zj8,AV.flatB,AV.flatBs,zj9,zk0,zk1,zk2,zk3,zk4,zk5,zk6,act,AV.cells,AV.mk,AV.asSl,AV.asInt,AV.vslOf,wIdx,zk7,zk8,zk9,zl0,zl1,zl2,zl3,st0,env0,zl5,zl6,Nat.reduceAdd,Nat.reduceLeDiff,AV.ofV,unV,← decide_not,zl7,zl8,zl9,zm1,zm2,zm3,zm4,zm5,zm6,zm7,zm8,zm9,zn0,zn1,zn2,zn3,zn4,zn5,zn6,zn7,reduceCtorEq,rowsOf,pureCells,AV.weak,AV.pureB,AV.pureBs,zn8,zn9,zo0,zo1,zo2,Nat.reduceBEq,zo3,zo4,zo5,zo6,zo7,zo8,zo9,zp0,zp1,boundOf,Option.map_none,slcTok,Int.cast_ofNat_Int,Int.toNat_zero,zq9,hn,hi1,hd,hx0,he2,hv,zr0,Int.toNat_sub,Nat.sub_zero,Int.sub_zero,Nat.zero_mul]
      refine ⟨some cc, rfl, hg1, ?_, rfl, fun j hj => ?_⟩
      · rw [hm, ht, hfx]
        exact ins_inpl hi
      · simp only [upd_eq, if_neg (show j ≠ k + 90 by omega), and_self]
  · obtain rfl : i = l.length := by omega
    refine I_ren (k + 90) (F := fun r s => ∃ cp, r = .vsl (k + 25) (s.gen (k + 25)) 7 0 (l.length + xs.length) cp ∧ s.var (k + 25) = fl (l ++ xs) ∧ 1 ≤ s.gen (k + 25) ∧ Oth k (k + 91) st s) ?_ ?_
    · refine I_of L.t_slices_Insert k [] [] (by exact Nat.le_of_ble_eq_true rfl) ?_
      show wCode _ (b_slices_Insert _) _ _ _ _
      obtain ⟨e0, g0, v0, tg0, tp0, x0⟩ := st
      simp only at hv hg1
      simp -implicitDefEqProofs only [b_slices_Insert,za0,za1,za2,za3,za4,eff,AV.ptrOf,AV.tokOf,za5,za6,AV.weaks,AV.weak1,za7,za8,za9,zb0,zb1,zb2,zb3,zb4,zb5,zb6,zb7,zb8,zb9,zc0,zc1,zc2,zc3,zc4,zc5,zc6,zc7,zc8,zc9,zd0,zd1,zd2,zd3,zd4,zd5,zd6,zd7,zd8,zd9,ze0,ze1,ze2,ze3,ze4,ze5,ze6,ze7,ze8,ze9,zf0,zf1,zf2,zf3,zf4,zf5,zf6,zf7,zf8,zf9,zg0,zg1,zg2,zg3,zg4,zg5,zg6,zg7,zg8,zg9,zh0,zh1,zh2,zh3,zh4,zh5,zh6,zh7,zh8,zh9,zi0,zi1,zi2,zi3,zi4,zi5,zi6,wSnil,zi7,zi8,zi9,zj0,zj1,zj2,zj3,zj4,zj5,zj6,zj7,zj8,AV.flatB,AV.flatBs,zj9,zk0,zk1,zk2,zk3,zk4,zk5,zk6,act,AV.cells,AV.mk,AV.asSl,AV.asInt,AV.vslOf,wIdx,zk7,zk8,zk9,zl0,zl1,zl2,zl3,st0,env0,zl4,zl5,zl6,Nat.reduceAdd,Nat.reduceEqDiff,Nat.reduceLeDiff,↓reduceIte,AV.ofV,unV,← decide_not,zl7,zl8,zl9,zm0,zm1,zm2,zm3,zm4,zm5,zm6,zm7,zm8,zm9,zn0,zn1,zn2,zn3,zn4,zn5,zn6,zn7,reduceCtorEq,rowsOf,pureCells,AV.weak,AV.pureB,AV.pureBs,zn8,zn9,zo0,zo1,zo2,Nat.reduceBEq,zo3,zo4,zo5,zo6,zo7,zo8,zo9,zp0,zp1,boundOf,Option.map_none,slcTok,Int.cast_ofNat_Int,Int.toNat_zero,zq9,hn,hx0,zr0,Int.toNat_sub,Nat.sub_zero,Int.sub_zero,Nat.zero_mul]
      refine ⟨⟨by omega, by omega, by omega⟩, fun h => h.elim, fun _ => ⟨fun _ => ?_, fun h => absurd trivial h⟩⟩
      simp -implicitDefEqProofs only [wApp,St.src,limTo,St.kill,zq9,c_slices_Insert,za0,za1,za2,za3,za4,eff,AV.ptrOf,AV.tokOf,za5,za6,AV.weaks,AV.weak1,za7,za8,za9,zb0,zb1,zb2,zb3,zb4,zb5,zb6,zb7,zb8,zb9,zc0,zc1,zc2,zc3,zc4,zc5,zc6,zc7,zc8,zc9,zd0,zd1,zd2,zd3,zd4,zd5,zd6,zd7,zd8,zd9,ze0,ze1,ze2,ze3,ze4,ze5,ze6,ze7,ze8,ze9,zf0,zf1,zf2,zf3,zf4,zf5,zf6,zf7,zf8,zf9,zg0,zg1,zg2,zg3,zg4,zg5,zg6,zg7,zg8,zg9,zh0,zh1,zh2,zh3,zh4,zh5,zh6,zh7,zh8,zh9,zi0,zi1,zi2,zi3,zi4,zi5,zi6,wSnil,zi7,zi8,zi9,zj0,zj1,zj2,zj3,zj4,zj5,zj6,zj7,zj8,AV.flatB,AV.flatBs,zj9,zk0,zk1,zk2,zk3,zk4,zk5,zk6,act,AV.cells,AV.mk,AV.asSl,AV.asInt,AV.vslOf,wIdx,zk7,zk8,zk9,zl0,zl1,zl2,zl3,st0,env0,zl4,zl5,zl6,Nat.reduceAdd,Nat.reduceEqDiff,Nat.reduceLeDiff,↓reduceIte,AV.ofV,unV,← decide_not,zl7,zl8,zl9,zm0,zm1,zm2,zm3,zm4,zm5,zm6,zm7,zm8,zm9,zn0,zn1,zn2,zn3,zn4,zn5,zn6,zn7,reduceCtorEq,rowsOf,pureCells,AV.weak,AV.pureB,AV.pureBs,zn8,zn9,zo0,zo1,zo2,Nat.reduceBEq,zo3,zo4,zo5,zo6,zo7,zo8,zo9,zp0,zp1,zp2,zp3,zp4,zp5,zp6,zp7,zp8,zp9,zq0,zq1]
      refine ⟨⟨by rw [hv, hfl]; omega, by omega⟩, _, rfl, ?_, rfl, fun j hj => ?_⟩
      · rw [hv, fl_take, List.take_length, List.take_of_length_le (by simp), fl_append]; rfl
      · simp only [upd_eq, if_neg (show j ≠ k + 25 by omega), if_neg (show j ≠ k + 90 by omega), and_self]
    · rintro r s ⟨cp, rfl, h2, h3, h4⟩
      refine ⟨k + 25, 7, _, cp, rfl, cp, ?_⟩
      obtain ⟨e, g, v, tg, tp, x'⟩ := s
      simp only [St.kill,St.newVar,zl4,zp0,Nat.add_right_inj,Nat.reduceEqDiff,zo3,zo4] at *
      refine ⟨trivial, by omega, by rw [h2, List.take_length, List.drop_length, List.append_nil], h4.1, fun j hj => ?_⟩
      simp only [upd_eq, if_neg (show j ≠ k + 25 by omega), if_neg (show j ≠ k + 90 by omega)]
      exact h4.2 j hj
end Go.Av

namespace Go.Av
variable {P : Program} {T : List Nat} {σ : Type}
theorem wApp_full2 {st : St σ} {d sz bytes : Nat} {tok : Tok} {rows news : List (List AV)} {K : AV → St σ → Prop} (hb : (rows.length + news.length) * bytes ≤ 140737488355328)
    (hK : K (.sl sz (.own d (st.tgen d + 1)) (rows ++ news)) (st.give d (rows.length + news.length))) : wApp d st sz bytes (.sl sz .full rows) (.sl sz tok news) K := by
  simp only [wApp,AV.vslOf,AV.asSl,zo3]
  exact ⟨hb, by simpa [appTok, wOpt] using hK⟩
theorem clone_nil_I (L : Lay P T) {O : Outs σ} {nt k0 : Nat} {th : List Nat} {fz : List (Nat × Nat × Nat)} (k : Nat) {st : St σ} {tok : Tok} :
    (sys O P T nt k0 th fz).I 80 [.sl 7 tok []] st (fun x s => OwnSl s x (k + 7) 7 [] ∧ Oth k (k + 8) st s) := by
  refine I_of L.t_slices_Clone k [] [] (by exact Nat.le_of_ble_eq_true rfl) ?_
  show wCode _ b_slices_Clone _ _ _ _
  obtain ⟨e0, g0, v0, tg0, tp0, x0⟩ := st
  simp -implicitDefEqProofs only [b_slices_Clone,za0,za1,za2,za3,za4,eff,AV.ptrOf,AV.tokOf,za5,za6,AV.weaks,AV.weak1,za7,za8,za9,zb0,zb1,zb2,zb3,zb4,zb5,zb6,zb7,zb8,zb9,zc0,zc1,zc2,zc3,zc4,zc5,zc6,zc7,zc8,zc9,zd0,zd1,zd2,zd3,zd4,zd5,zd6,zd7,zd8,zd9,ze0,ze1,ze2,ze3,ze4,ze5,ze6,ze7,ze8,ze9,zf0,zf1,zf2,zf3,zf4,zf5,zf6,zf7,zf8,zf9,zg0,zg1,zg2,zg3,zg4,zg5,zg6,zg7,zg8,zg9,zh0,zh1,zh2,zh3,zh4,zh5,zh6,zh7,zh8,zh9,zi0,zi1,zi2,zi3,zi4,zi5,zi6,wSnil,zi7,zi8,zi9,zj0,zj1,zj2,zj3,zj4,zj5,zj6,zj7,zj8,AV.flatB,AV.flatBs,zj9,zk0,zk1,zk2,zk3,zk4,zk5,zk6,act,AV.cells,AV.mk,AV.asSl,AV.asInt,AV.vslOf,wIdx,zk7,zk8,zk9,zl0,zl1,zl2,zl3,st0,env0,zl4,zl5,zl6,Nat.reduceAdd,Nat.reduceEqDiff,Nat.reduceLeDiff,↓reduceIte,AV.ofV,unV,← decide_not,zl7,zl8,zl9,zm0,zm1,zm2,zm3,zm4,zm5,zm6,zm7,zm8,zm9,zn0,zn1,zn2,zn3,zn4,zn5,zn6,zn7,reduceCtorEq,rowsOf,pureCells,AV.weak,AV.pureB,AV.pureBs,zn8,zn9,zo0,zo1,zo2,Nat.reduceBEq,zo3,zo4,zo5,zo6,zo7,zo8,zo9,zp0,zp1]
  refine ⟨fun h => absurd rfl h, fun _ => ⟨?_, ?_⟩⟩
  · simp -implicitDefEqProofs only [c_slices_Clone,za0,za1,za2,za3,za4,eff,AV.ptrOf,AV.tokOf,za5,za6,AV.weaks,AV.weak1,za7,za8,za9,zb0,zb1,zb2,zb3,zb4,zb5,zb6,zb7,zb8,zb9,zc0,zc1,zc2,zc3,zc4,zc5,zc6,zc7,zc8,zc9,zd0,zd1,zd2,zd3,zd4,zd5,zd6,zd7,zd8,zd9,ze0,ze1,ze2,ze3,ze4,ze5,ze6,ze7,ze8,ze9,zf0,zf1,zf2,zf3,zf4,zf5,zf6,zf7,zf8,zf9,zg0,zg1,zg2,zg3,zg4,zg5,zg6,zg7,zg8,zg9,zh0,zh1,zh2,zh3,zh4,zh5,zh6,zh7,zh8,zh9,zi0,zi1,zi2,zi3,zi4,zi5,zi6,wSnil,zi7,zi8,zi9,zj0,zj1,zj2,zj3,zj4,zj5,zj6,zj7,zj8,AV.flatB,AV.flatBs,zj9,zk0,zk1,zk2,zk3,zk4,zk5,zk6,act,AV.cells,AV.mk,AV.asSl,AV.asInt,AV.vslOf,wIdx,zk7,zk8,zk9,zl0,zl1,zl2,zl3,st0,env0,zl4,zl5,zl6,Nat.reduceAdd,Nat.reduceEqDiff,Nat.reduceLeDiff,↓reduceIte,AV.ofV,unV,← decide_not,zl7,zl8,zl9,zm0,zm1,zm2,zm3,zm4,zm5,zm6,zm7,zm8,zm9,zn0,zn1,zn2,zn3,zn4,zn5,zn6,zn7,reduceCtorEq,rowsOf,pureCells,AV.weak,AV.pureB,AV.pureBs,zn8,zn9,zo0,zo1,zo2,Nat.reduceBEq,zo3,zo4,zo5,zo6,zo7,zo8,zo9,zp0,zp1,zp2,zp3,zp4,zp5,zp6,zp7,zp8,zp9,zq0,zq1]
    exact ⟨.inl ⟨rfl, rfl⟩, Oth.refl _ _ _⟩
  · refine wApp_full2 (rows := []) (news := []) (by simp) ?_
    simp -implicitDefEqProofs only [c_slices_Clone,za0,za1,za2,za3,za4,eff,AV.ptrOf,AV.tokOf,za5,za6,AV.weaks,AV.weak1,za7,za8,za9,zb0,zb1,zb2,zb3,zb4,zb5,zb6,zb7,zb8,zb9,zc0,zc1,zc2,zc3,zc4,zc5,zc6,zc7,zc8,zc9,zd0,zd1,zd2,zd3,zd4,zd5,zd6,zd7,zd8,zd9,ze0,ze1,ze2,ze3,ze4,ze5,ze6,ze7,ze8,ze9,zf0,zf1,zf2,zf3,zf4,zf5,zf6,zf7,zf8,zf9,zg0,zg1,zg2,zg3,zg4,zg5,zg6,zg7,zg8,zg9,zh0,zh1,zh2,zh3,zh4,zh5,zh6,zh7,zh8,zh9,zi0,zi1,zi2,zi3,zi4,zi5,zi6,wSnil,zi7,zi8,zi9,zj0,zj1,zj2,zj3,zj4,zj5,zj6,zj7,zj8,AV.flatB,AV.flatBs,zj9,zk0,zk1,zk2,zk3,zk4,zk5,zk6,act,AV.cells,AV.mk,AV.asSl,AV.asInt,AV.vslOf,wIdx,zk7,zk8,zk9,zl0,zl1,zl2,zl3,st0,env0,zl4,zl5,zl6,Nat.reduceAdd,Nat.reduceEqDiff,Nat.reduceLeDiff,↓reduceIte,AV.ofV,unV,← decide_not,zl7,zl8,zl9,zm0,zm1,zm2,zm3,zm4,zm5,zm6,zm7,zm8,zm9,zn0,zn1,zn2,zn3,zn4,zn5,zn6,zn7,reduceCtorEq,rowsOf,pureCells,AV.weak,AV.pureB,AV.pureBs,zn8,zn9,zo0,zo1,zo2,Nat.reduceBEq,zo3,zo4,zo5,zo6,zo7,zo8,zo9,zp0,zp1,zp2,zp3,zp4,zp5,zp6,zp7,zp8,zp9,zq0,zq1]
    refine ⟨.inr (.inr ⟨by simp [upd], by simp [upd]⟩), rfl, fun j hj => ?_⟩
    simp [upd, show j ≠ k + 7 by omega]
theorem insert_nil_I (L : Lay P T) {O : Outs σ} {nt k0 : Nat} {th : List Nat} {fz : List (Nat × Nat × Nat)} (k : Nat) {st : St σ} {x : AV} {d : Nat} {xs : List Item} {tok : Tok} (hxl : xs.length ≤ 100000) (hx : 0 < xs.length) (ho : OwnSl st x d 7 []) (hd : d < k) :
    (sys O P T nt k0 th fz).I 122 [x, .imm (.int .i64 0), .sl 7 tok (xs.map Item.row)] st (fun r s => OwnSl s r (k + 25) 7 (xs.map Item.row) ∧ s.gen = st.gen ∧ s.var = st.var ∧ s.x = st.x) := by
  have hx0 : ¬ (xs.length : Int) = 0 := by omega
  refine I_of L.t_slices_Insert k [] [] (by exact Nat.le_of_ble_eq_true rfl) ?_
  show wCode _ (b_slices_Insert _) _ _ _ _
  obtain ⟨e0, g0, v0, tg0, tp0, x0⟩ := st
  rcases ho with ⟨rfl, _⟩ | ⟨rfl, _⟩ | ⟨rfl, ht⟩
  all_goals
    simp -implicitDefEqProofs only [b_slices_Insert,za0,za1,za2,za3,za4,eff,AV.ptrOf,AV.tokOf,za5,za6,AV.weaks,AV.weak1,za7,za8,za9,zb0,zb1,zb2,zb3,zb4,zb5,zb6,zb7,zb8,zb9,zc0,zc1,zc2,zc3,zc4,zc5,zc6,zc7,zc8,zc9,zd0,zd1,zd2,zd3,zd4,zd5,zd6,zd7,zd8,zd9,ze0,ze1,ze2,ze3,ze4,ze5,ze6,ze7,ze8,ze9,zf0,zf1,zf2,zf3,zf4,zf5,zf6,zf7,zf8,zf9,zg0,zg1,zg2,zg3,zg4,zg5,zg6,zg7,zg8,zg9,zh0,zh1,zh2,zh3,zh4,zh5,zh6,zh7,zh8,zh9,zi0,zi1,zi2,zi3,zi4,zi5,zi6,wSnil,zi7,zi8,zi9,zj0,zj1,zj2,zj3,zj4,zj5,zj6,zj7,zj8,AV.flatB,AV.flatBs,zj9,zk0,zk1,zk2,zk3,zk4,zk5,zk6,act,AV.cells,AV.mk,AV.asSl,AV.asInt,AV.vslOf,wIdx,zk7,zk8,zk9,zl0,zl1,zl2,zl3,st0,env0,zl4,zl5,zl6,Nat.reduceAdd,Nat.reduceEqDiff,Nat.reduceLeDiff,↓reduceIte,AV.ofV,unV,← decide_not,zl7,zl8,zl9,zm0,zm1,zm2,zm3,zm4,zm5,zm6,zm7,zm8,zm9,zn0,zn1,zn2,zn3,zn4,zn5,zn6,zn7,reduceCtorEq,rowsOf,pureCells,AV.weak,AV.pureB,AV.pureBs,zn8,zn9,zo0,zo1,zo2,Nat.reduceBEq,zo3,zo4,zo5,zo6,zo7,zo8,zo9,zp0,zp1,boundOf,Option.map_none,slcTok,Int.cast_ofNat_Int,Int.toNat_zero,zq9,hx0,zr0]
    refine ⟨by simp, fun h => h.elim, fun _ => ⟨fun _ => ?_, fun h => absurd trivial h⟩⟩
  · simp -implicitDefEqProofs only [wApp,appTok,zq9,c_slices_Insert,za0,za1,za2,za3,za4,eff,AV.ptrOf,AV.tokOf,za5,za6,AV.weaks,AV.weak1,za7,za8,za9,zb0,zb1,zb2,zb3,zb4,zb5,zb6,zb7,zb8,zb9,zc0,zc1,zc2,zc3,zc4,zc5,zc6,zc7,zc8,zc9,zd0,zd1,zd2,zd3,zd4,zd5,zd6,zd7,zd8,zd9,ze0,ze1,ze2,ze3,ze4,ze5,ze6,ze7,ze8,ze9,zf0,zf1,zf2,zf3,zf4,zf5,zf6,zf7,zf8,zf9,zg0,zg1,zg2,zg3,zg4,zg5,zg6,zg7,zg8,zg9,zh0,zh1,zh2,zh3,zh4,zh5,zh6,zh7,zh8,zh9,zi0,zi1,zi2,zi3,zi4,zi5,zi6,wSnil,zi7,zi8,zi9,zj0,zj1,zj2,zj3,zj4,zj5,zj6,zj7,zj8,AV.flatB,AV.flatBs,zj9,zk0,zk1,zk2,zk3,zk4,zk5,zk6,act,AV.cells,AV.mk,AV.asSl,AV.asInt,AV.vslOf,wIdx,zk7,zk8,zk9,zl0,zl1,zl2,zl3,st0,env0,zl4,zl5,zl6,Nat.reduceAdd,Nat.reduceEqDiff,Nat.reduceLeDiff,↓reduceIte,AV.ofV,unV,← decide_not,zl7,zl8,zl9,zm0,zm1,zm2,zm3,zm4,zm5,zm6,zm7,zm8,zm9,zn0,zn1,zn2,zn3,zn4,zn5,zn6,zn7,reduceCtorEq,rowsOf,pureCells,AV.weak,AV.pureB,AV.pureBs,zn8,zn9,zo0,zo1,zo2,Nat.reduceBEq,zo3,zo4,zo5,zo6,zo7,zo8,zo9,zp0,zp1,zp2,zp3,zp4,zp5,zp6,zp7,zp8,zp9,zq0,zq1]
    exact ⟨by omega, .inr (.inr ⟨by simp [upd], by simp [upd]⟩)⟩
  · simp -implicitDefEqProofs only [wApp,appTok,zq9,c_slices_Insert,za0,za1,za2,za3,za4,eff,AV.ptrOf,AV.tokOf,za5,za6,AV.weaks,AV.weak1,za7,za8,za9,zb0,zb1,zb2,zb3,zb4,zb5,zb6,zb7,zb8,zb9,zc0,zc1,zc2,zc3,zc4,zc5,zc6,zc7,zc8,zc9,zd0,zd1,zd2,zd3,zd4,zd5,zd6,zd7,zd8,zd9,ze0,ze1,ze2,ze3,ze4,ze5,ze6,ze7,ze8,ze9,zf0,zf1,zf2,zf3,zf4,zf5,zf6,zf7,zf8,zf9,zg0,zg1,zg2,zg3,zg4,zg5,zg6,zg7,zg8,zg9,zh0,zh1,zh2,zh3,zh4,zh5,zh6,zh7,zh8,zh9,zi0,zi1,zi2,zi3,zi4,zi5,zi6,wSnil,zi7,zi8,zi9,zj0,zj1,zj2,zj3,zj4,zj5,zj6,zj7,zj8,AV.flatB,AV.flatBs,zj9,zk0,zk1,zk2,zk3,zk4,zk5,zk6,act,AV.cells,AV.mk,AV.asSl,AV.asInt,AV.vslOf,wIdx,zk7,zk8,zk9,zl0,zl1,zl2,zl3,st0,env0,zl4,zl5,zl6,Nat.reduceAdd,Nat.reduceEqDiff,Nat.reduceLeDiff,↓reduceIte,AV.ofV,unV,← decide_not,zl7,zl8,zl9,zm0,zm1,zm2,zm3,zm4,zm5,zm6,zm7,zm8,zm9,zn0,zn1,zn2,zn3,zn4,zn5,zn6,zn7,reduceCtorEq,rowsOf,pureCells,AV.weak,AV.pureB,AV.pureBs,zn8,zn9,zo0,zo1,zo2,Nat.reduceBEq,zo3,zo4,zo5,zo6,zo7,zo8,zo9,zp0,zp1,zp2,zp3,zp4,zp5,zp6,zp7,zp8,zp9,zq0,zq1]
    exact ⟨by omega, .inr (.inr ⟨by simp [upd], by simp [upd]⟩)⟩
  · simp only [zn4] at ht
    simp -implicitDefEqProofs only [wApp,appTok,zq9,c_slices_Insert,ht,za0,za1,za2,za3,za4,eff,AV.ptrOf,AV.tokOf,za5,za6,AV.weaks,AV.weak1,za7,za8,za9,zb0,zb1,zb2,zb3,zb4,zb5,zb6,zb7,zb8,zb9,zc0,zc1,zc2,zc3,zc4,zc5,zc6,zc7,zc8,zc9,zd0,zd1,zd2,zd3,zd4,zd5,zd6,zd7,zd8,zd9,ze0,ze1,ze2,ze3,ze4,ze5,ze6,ze7,ze8,ze9,zf0,zf1,zf2,zf3,zf4,zf5,zf6,zf7,zf8,zf9,zg0,zg1,zg2,zg3,zg4,zg5,zg6,zg7,zg8,zg9,zh0,zh1,zh2,zh3,zh4,zh5,zh6,zh7,zh8,zh9,zi0,zi1,zi2,zi3,zi4,zi5,zi6,wSnil,zi7,zi8,zi9,zj0,zj1,zj2,zj3,zj4,zj5,zj6,zj7,zj8,AV.flatB,AV.flatBs,zj9,zk0,zk1,zk2,zk3,zk4,zk5,zk6,act,AV.cells,AV.mk,AV.asSl,AV.asInt,AV.vslOf,wIdx,zk7,zk8,zk9,zl0,zl1,zl2,zl3,st0,env0,zl4,zl5,zl6,Nat.reduceAdd,Nat.reduceEqDiff,Nat.reduceLeDiff,↓reduceIte,AV.ofV,unV,← decide_not,zl7,zl8,zl9,zm0,zm1,zm2,zm3,zm4,zm5,zm6,zm7,zm8,zm9,zn0,zn1,zn2,zn3,zn4,zn5,zn6,zn7,reduceCtorEq,rowsOf,pureCells,AV.weak,AV.pureB,AV.pureBs,zn8,zn9,zo0,zo1,zo2,Nat.reduceBEq,zo3,zo4,zo5,zo6,zo7,zo8,zo9,zp0,zp1,zp2,zp3,zp4,zp5,zp6,zp7,zp8,zp9,zq0,zq1]
    exact ⟨by omega, .inr (.inr ⟨by simp [upd], by simp [upd]⟩)⟩
theorem put_con (L : Lay P T) (V : StrLib P T) (W : Ovl7 P T) (l xs : List Item) (p : PatchS) (i : Int) (hl : l.length ≤ 100000) (hid : Fit l) (hxl : xs.length ≤ 100000) (hx : 0 < xs.length) (ha : p.after ≠ nilS → 0 ≤ findS p.after l) (hq : p.parent ≠ nilS → 0 ≤ findS p.parent l) (hat : placeAt l p.parent p.after ≤ l.length) :
    Con P T 103 [chg l p i, .sl 7 .ro (xs.map Item.row)] (.agg [.sl 7 .ro ((putS l xs p.parent p.after).map Item.row)]) := by
  by_cases hn : l = []
  · subst hn
    have h1 : p.after = nilS := Classical.byContradiction fun h => by have := ha h; simp [findS] at this
    have h2 : p.parent = nilS := Classical.byContradiction fun h => by have := hq h; simp [findS] at this
    have hp : putS [] xs p.parent p.after = xs := by simp [putS]
    rw [hp]
    refine Con_of nul L.t_patch_change_put [] [] (by exact Nat.le_of_ble_eq_true rfl) ?_
    show wCode _ b_patch_change_put _ _ _ _
    simp -implicitDefEqProofs only [b_patch_change_put,chg,PatchS.row,Item.row,zb0,za9,za0,za1,za2,za3,za4,eff,AV.ptrOf,AV.tokOf,za5,za6,AV.weaks,AV.weak1,za7,za8,zb1,zb2,zb3,zb4,zb5,zb6,zb7,zb8,zb9,zc0,zc1,zc2,zc3,zc4,zc5,zc6,zc7,zc8,zc9,zd0,zd1,zd2,zd3,zd4,zd5,zd6,zd7,zd8,zd9,ze0,ze1,ze2,ze3,ze4,ze5,ze6,ze7,ze8,ze9,zf0,zf1,zf2,zf3,zf4,zf5,zf6,zf7,zf8,zf9,zg0,zg1,zg2,zg3,zg4,zg5,zg6,zg7,zg8,zg9,zh0,zh1,zh2,zh3,zh4,zh5,zh6,zh7,zh8,zh9,zi0,zi1,zi2,zi3,zi4,zi5,zi6,wSnil,zi7,zi8,zi9,zj0,zj1,zj2,zj3,zj4,zj5,zj6,zj7,zj8,AV.flatB,AV.flatBs,zj9,zk0,zk1,zk2,zk3,zk4,zk5,zk6,act,AV.cells,AV.mk,AV.asSl,AV.asInt,AV.vslOf,wIdx,zk7,zk8,zk9,zl0,zl1,zl2,zl3,st0,env0,zl4,zl5,zl6,Nat.reduceAdd,Nat.reduceEqDiff,Nat.reduceLeDiff,↓reduceIte,AV.ofV,unV,← decide_not,zl7,zl8,zl9,zm0,zm1,zm2,zm3,zm4,zm5,zm6,zm7,zm8,zm9,zn0,zn1,zn2,zn3,zn4,zn5,zn6,zn7,reduceCtorEq,rowsOf,pureCells,AV.weak,AV.pureB,AV.pureBs,zn8,zn9,zo0,zo1,zo2,Nat.reduceBEq,zo3,zo4,zo5,zo6,zo7,zo8,zo9,zp0,zp1]
    refine ⟨fun h => absurd h1 h, fun _ => ⟨fun h => absurd h2 h, fun _ => ?_⟩⟩
    refine wCall_I (clone_nil_I L 100) ?_
    rintro y ⟨e2, g2, v2, tg2, tp2, x2⟩ ⟨q1, q2⟩ he2
    have k2 := q2.2 2 (by omega)
    have k4 := q2.2 4 (by omega)
    simp only [zl4,Nat.reduceAdd,Nat.reduceEqDiff,zo3,zo4] at he2 q1 k2 k4
    subst he2
    clear q2
    obtain ⟨k2g, k2v, -, -⟩ := k2
    obtain ⟨k4g, k4v, -, -⟩ := k4
    simp -implicitDefEqProofs only [k2g,k2v,k4g,k4v,PatchS.row,Item.row,zb0,za9,zq9,za0,za1,za2,za3,za4,eff,AV.ptrOf,AV.tokOf,za5,za6,AV.weaks,AV.weak1,za7,za8,zb1,zb2,zb3,zb4,zb5,zb6,zb7,zb8,zb9,zc0,zc1,zc2,zc3,zc4,zc5,zc6,zc7,zc8,zc9,zd0,zd1,zd2,zd3,zd4,zd5,zd6,zd7,zd8,zd9,ze0,ze1,ze2,ze3,ze4,ze5,ze6,ze7,ze8,ze9,zf0,zf1,zf2,zf3,zf4,zf5,zf6,zf7,zf8,zf9,zg0,zg1,zg2,zg3,zg4,zg5,zg6,zg7,zg8,zg9,zh0,zh1,zh2,zh3,zh4,zh5,zh6,zh7,zh8,zh9,zi0,zi1,zi2,zi3,zi4,zi5,zi6,wSnil,zi7,zi8,zi9,zj0,zj1,zj2,zj3,zj4,zj5,zj6,zj7,zj8,AV.flatB,AV.flatBs,zj9,zk0,zk1,zk2,zk3,zk4,zk5,zk6,act,AV.cells,AV.mk,AV.asSl,AV.asInt,AV.vslOf,wIdx,zk7,zk8,zk9,zl0,zl1,zl2,zl3,st0,env0,zl4,zl5,zl6,Nat.reduceAdd,Nat.reduceEqDiff,Nat.reduceLeDiff,↓reduceIte,AV.ofV,unV,← decide_not,zl7,zl8,zl9,zm0,zm1,zm2,zm3,zm4,zm5,zm6,zm7,zm8,zm9,zn0,zn1,zn2,zn3,zn4,zn5,zn6,zn7,reduceCtorEq,rowsOf,pureCells,AV.weak,AV.pureB,AV.pureBs,zn8,zn9,zo0,zo1,zo2,Nat.reduceBEq,zo3,zo4,zo5,zo6,zo7,zo8,zo9,zp0,zp1]
    refine wCall_I (insert_nil_I L 200 (d := 107) hxl hx ?_ (by omega)) ?_
    · exact q1.keep rfl rfl
    rintro y' ⟨e3, g3, v3, tg3, tp3, x3⟩ ⟨q1', q3, q4, q5⟩ he3
    simp only at he3 q3 q4 q5
    subst he3 q3 q4
    have hne : xs.map Item.row ≠ [] := by
      intro h
      rw [List.map_eq_nil_iff] at h
      subst h
      simp at hx
    rcases q1' with ⟨_, h⟩ | ⟨_, h⟩ | ⟨rfl, ht⟩
    · exact absurd h hne
    · exact absurd h hne
    simp -implicitDefEqProofs only [k2g,k2v,k4g,k4v,fills,splice,zq7,zq8,c_patch_change_put,zq9,za0,za1,za2,za3,za4,eff,AV.ptrOf,AV.tokOf,za5,za6,AV.weaks,AV.weak1,za7,za8,za9,zb0,zb1,zb2,zb3,zb4,zb5,zb6,zb7,zb8,zb9,zc0,zc1,zc2,zc3,zc4,zc5,zc6,zc7,zc8,zc9,zd0,zd1,zd2,zd3,zd4,zd5,zd6,zd7,zd8,zd9,ze0,ze1,ze2,ze3,ze4,ze5,ze6,ze7,ze8,ze9,zf0,zf1,zf2,zf3,zf4,zf5,zf6,zf7,zf8,zf9,zg0,zg1,zg2,zg3,zg4,zg5,zg6,zg7,zg8,zg9,zh0,zh1,zh2,zh3,zh4,zh5,zh6,zh7,zh8,zh9,zi0,zi1,zi2,zi3,zi4,zi5,zi6,wSnil,zi7,zi8,zi9,zj0,zj1,zj2,zj3,zj4,zj5,zj6,zj7,zj8,AV.flatB,AV.flatBs,zj9,zk0,zk1,zk2,zk3,zk4,zk5,zk6,act,AV.cells,AV.mk,AV.asSl,AV.asInt,AV.vslOf,wIdx,zk7,zk8,zk9,zl0,zl1,zl2,zl3,st0,env0,zl4,zl5,zl6,Nat.reduceAdd,Nat.reduceEqDiff,Nat.reduceLeDiff,↓reduceIte,AV.ofV,unV,← decide_not,zl7,zl8,zl9,zm0,zm1,zm2,zm3,zm4,zm5,zm6,zm7,zm8,zm9,zn0,zn1,zn2,zn3,zn4,zn5,zn6,zn7,reduceCtorEq,rowsOf,pureCells,AV.weak,AV.pureB,AV.pureBs,zn8,zn9,zo0,zo1,zo2,Nat.reduceBEq,zo3,zo4,zo5,zo6,zo7,zo8,zo9,zp0,zp1]
    simp -implicitDefEqProofs only [zp5,k4g,k4v,zp2,zp3,zp4,zp6,zp7,zp8,zp9,zq0,zq1,zl4,Nat.reduceEqDiff,↓reduceIte,zm0]
    refine ⟨⟨trivial, Nat.le_refl _, Nat.le_refl _⟩, ?_⟩
    show wOpt (some _) _
    simp only [zk3,endR,out]
    rw [if_pos (by rfl), wOpt_some]
    show AV.le (.agg [.sl 7 .ro (xs.map Item.row)]) _
    exact AV.le_refl _
  · have h0 : 0 < l.length := List.length_pos_iff.2 hn
    refine Con_of nul L.t_patch_change_put [] [(40, 190, 7)] (by exact Nat.le_of_ble_eq_true rfl) ?_
    show wCode _ b_patch_change_put _ _ _ _
    simp -implicitDefEqProofs only [b_patch_change_put,chg,PatchS.row,Item.row,zb0,za9,wOps_fz',za0,za1,za2,za3,za4,eff,AV.ptrOf,AV.tokOf,za5,za6,AV.weaks,AV.weak1,za7,za8,zb1,zb2,zb3,zb4,zb5,zb6,zb7,zb8,zb9,zc0,zc1,zc2,zc3,zc4,zc5,zc6,zc7,zc8,zc9,zd0,zd1,zd2,zd3,zd4,zd5,zd6,zd7,zd8,zd9,ze0,ze1,ze2,ze3,ze4,ze5,ze6,ze7,ze8,ze9,zf0,zf1,zf2,zf3,zf4,zf5,zf6,zf7,zf8,zf9,zg0,zg1,zg2,zg3,zg4,zg5,zg6,zg7,zg8,zg9,zh0,zh1,zh2,zh3,zh4,zh5,zh6,zh7,zh8,zh9,zi0,zi1,zi2,zi3,zi4,zi5,zi6,wSnil,zi7,zi8,zi9,zj0,zj1,zj2,zj3,zj4,zj5,zj6,zj7,zj8,AV.flatB,AV.flatBs,zj9,zk0,zk1,zk2,zk3,zk4,zk5,zk6,act,AV.cells,AV.mk,AV.asSl,AV.asInt,AV.vslOf,wIdx,zk7,zk8,zk9,zl0,zl1,zl2,zl3,st0,env0,zl4,zl5,zl6,Nat.reduceAdd,Nat.reduceEqDiff,Nat.reduceLeDiff,↓reduceIte,AV.ofV,unV,← decide_not,zl7,zl8,zl9,zm0,zm1,zm2,zm3,zm4,zm5,zm6,zm7,zm8,zm9,zn0,zn1,zn2,zn3,zn4,zn5,zn6,zn7,reduceCtorEq,rowsOf,pureCells,AV.weak,AV.pureB,AV.pureBs,zn8,zn9,zo0,zo1,zo2,Nat.reduceBEq,zo3,zo4,zo5,zo6,zo7,zo8,zo9,zp0,zp1]
    refine ⟨fun h1 => ?ca, fun h1 => ⟨fun h2 => ?cb, fun h2 => ?cc⟩⟩
    case' ca =>
      refine wCall_imm (cfind_con L l p.after (by omega)) rfl (AV.les2_refl _) ?_
      simp -implicitDefEqProofs only [chg,PatchS.row,Item.row,zb0,za9,zq9,wOps_fz',za0,za1,za2,za3,za4,eff,AV.ptrOf,AV.tokOf,za5,za6,AV.weaks,AV.weak1,za7,za8,zb1,zb2,zb3,zb4,zb5,zb6,zb7,zb8,zb9,zc0,zc1,zc2,zc3,zc4,zc5,zc6,zc7,zc8,zc9,zd0,zd1,zd2,zd3,zd4,zd5,zd6,zd7,zd8,zd9,ze0,ze1,ze2,ze3,ze4,ze5,ze6,ze7,ze8,ze9,zf0,zf1,zf2,zf3,zf4,zf5,zf6,zf7,zf8,zf9,zg0,zg1,zg2,zg3,zg4,zg5,zg6,zg7,zg8,zg9,zh0,zh1,zh2,zh3,zh4,zh5,zh6,zh7,zh8,zh9,zi0,zi1,zi2,zi3,zi4,zi5,zi6,wSnil,zi7,zi8,zi9,zj0,zj1,zj2,zj3,zj4,zj5,zj6,zj7,zj8,AV.flatB,AV.flatBs,zj9,zk0,zk1,zk2,zk3,zk4,zk5,zk6,act,AV.cells,AV.mk,AV.asSl,AV.asInt,AV.vslOf,wIdx,zk7,zk8,zk9,zl0,zl1,zl2,zl3,st0,env0,zl4,zl5,zl6,Nat.reduceAdd,Nat.reduceEqDiff,Nat.reduceLeDiff,↓reduceIte,AV.ofV,unV,← decide_not,zl7,zl8,zl9,zm0,zm1,zm2,zm3,zm4,zm5,zm6,zm7,zm8,zm9,zn0,zn1,zn2,zn3,zn4,zn5,zn6,zn7,reduceCtorEq,rowsOf,pureCells,AV.weak,AV.pureB,AV.pureBs,zn8,zn9,zo0,zo1,zo2,Nat.reduceBEq,zo3,zo4,zo5,zo6,zo7,zo8,zo9,zp0,zp1]
      refine wCall_imm (size_con L V l p i p.after (by omega) hid) rfl (AV.les2_refl _) ?_
      have hw : IntKind.i64.wrap (findS p.after l + ((1 + (belowS l p.after).length : Nat) : Int)) = ((placeAt l p.parent p.after : Nat) : Int) := by
        have hb : (belowS l p.after).length ≤ l.length := by
          unfold belowS
          split
          · exact pick_len _ _
          · simp
        have h3 := ha h1
        rcases findS_range l p.after with h4 | ⟨n, h4, h5⟩
        · omega
        rw [placeAt, if_pos (show p.after ≠ nilS from h1), h4, IntWalk.i64_in _ (by omega), Int.toNat_natCast]
        push_cast
        rfl
      simp -implicitDefEqProofs only [hw,chg,PatchS.row,Item.row,zb0,za9,zq9,wOps_fz',za0,za1,za2,za3,za4,eff,AV.ptrOf,AV.tokOf,za5,za6,AV.weaks,AV.weak1,za7,za8,zb1,zb2,zb3,zb4,zb5,zb6,zb7,zb8,zb9,zc0,zc1,zc2,zc3,zc4,zc5,zc6,zc7,zc8,zc9,zd0,zd1,zd2,zd3,zd4,zd5,zd6,zd7,zd8,zd9,ze0,ze1,ze2,ze3,ze4,ze5,ze6,ze7,ze8,ze9,zf0,zf1,zf2,zf3,zf4,zf5,zf6,zf7,zf8,zf9,zg0,zg1,zg2,zg3,zg4,zg5,zg6,zg7,zg8,zg9,zh0,zh1,zh2,zh3,zh4,zh5,zh6,zh7,zh8,zh9,zi0,zi1,zi2,zi3,zi4,zi5,zi6,wSnil,zi7,zi8,zi9,zj0,zj1,zj2,zj3,zj4,zj5,zj6,zj7,zj8,AV.flatB,AV.flatBs,zj9,zk0,zk1,zk2,zk3,zk4,zk5,zk6,act,AV.cells,AV.mk,AV.asSl,AV.asInt,AV.vslOf,wIdx,zk7,zk8,zk9,zl0,zl1,zl2,zl3,st0,env0,zl4,zl5,zl6,Nat.reduceAdd,Nat.reduceEqDiff,Nat.reduceLeDiff,↓reduceIte,AV.ofV,unV,← decide_not,zl7,zl8,zl9,zm0,zm1,zm2,zm3,zm4,zm5,zm6,zm7,zm8,zm9,zn0,zn1,zn2,zn3,zn4,zn5,zn6,zn7,reduceCtorEq,rowsOf,pureCells,AV.weak,AV.pureB,AV.pureBs,zn8,zn9,zo0,zo1,zo2,Nat.reduceBEq,zo3,zo4,zo5,zo6,zo7,zo8,zo9,zp0,zp1]
      refine ⟨rfl, ?_⟩
    case' cb =>
      refine wCall_imm (cfind_con L l p.parent (by omega)) rfl (AV.les2_refl _) ?_
      have hw : IntKind.i64.wrap (findS p.parent l + 1) = ((placeAt l p.parent p.after : Nat) : Int) := by
        have h3 := hq h2
        rcases findS_range l p.parent with h4 | ⟨n, h4, h5⟩
        · omega
        rw [placeAt, if_neg (show ¬ p.after ≠ nilS from fun h => h h1), if_pos (show p.parent ≠ nilS from h2), h4, IntWalk.i64_in _ (by omega), Int.toNat_natCast]
        push_cast
        rfl
      simp -implicitDefEqProofs only [hw,chg,PatchS.row,Item.row,zb0,za9,zq9,wOps_fz',za0,za1,za2,za3,za4,eff,AV.ptrOf,AV.tokOf,za5,za6,AV.weaks,AV.weak1,za7,za8,zb1,zb2,zb3,zb4,zb5,zb6,zb7,zb8,zb9,zc0,zc1,zc2,zc3,zc4,zc5,zc6,zc7,zc8,zc9,zd0,zd1,zd2,zd3,zd4,zd5,zd6,zd7,zd8,zd9,ze0,ze1,ze2,ze3,ze4,ze5,ze6,ze7,ze8,ze9,zf0,zf1,zf2,zf3,zf4,zf5,zf6,zf7,zf8,zf9,zg0,zg1,zg2,zg3,zg4,zg5,zg6,zg7,zg8,zg9,zh0,zh1,zh2,zh3,zh4,zh5,zh6,zh7,zh8,zh9,zi0,zi1,zi2,zi3,zi4,zi5,zi6,wSnil,zi7,zi8,zi9,zj0,zj1,zj2,zj3,zj4,zj5,zj6,zj7,zj8,AV.flatB,AV.flatBs,zj9,zk0,zk1,zk2,zk3,zk4,zk5,zk6,act,AV.cells,AV.mk,AV.asSl,AV.asInt,AV.vslOf,wIdx,zk7,zk8,zk9,zl0,zl1,zl2,zl3,st0,env0,zl4,zl5,zl6,Nat.reduceAdd,Nat.reduceEqDiff,Nat.reduceLeDiff,↓reduceIte,AV.ofV,unV,← decide_not,zl7,zl8,zl9,zm0,zm1,zm2,zm3,zm4,zm5,zm6,zm7,zm8,zm9,zn0,zn1,zn2,zn3,zn4,zn5,zn6,zn7,reduceCtorEq,rowsOf,pureCells,AV.weak,AV.pureB,AV.pureBs,zn8,zn9,zo0,zo1,zo2,Nat.reduceBEq,zo3,zo4,zo5,zo6,zo7,zo8,zo9,zp0,zp1]
    case' cc =>
      have hw : (0 : Int) = ((placeAt l p.parent p.after : Nat) : Int) := by
        rw [placeAt, if_neg (show ¬ p.after ≠ nilS from fun h => h h1), if_neg (show ¬ p.parent ≠ nilS from fun h => h h2)]
        rfl
      rw [hw]
    all_goals
      refine wCall_I (clone_I L 183 l (by omega) h0) ?_
      rintro _ s ⟨rfl, rfl⟩ he
      simp -implicitDefEqProofs only [zl1,chg,PatchS.row,Item.row,zb0,za9,zq9,wOps_fz',za0,za1,za2,za3,za4,eff,AV.ptrOf,AV.tokOf,za5,za6,AV.weaks,AV.weak1,za7,za8,zb1,zb2,zb3,zb4,zb5,zb6,zb7,zb8,zb9,zc0,zc1,zc2,zc3,zc4,zc5,zc6,zc7,zc8,zc9,zd0,zd1,zd2,zd3,zd4,zd5,zd6,zd7,zd8,zd9,ze0,ze1,ze2,ze3,ze4,ze5,ze6,ze7,ze8,ze9,zf0,zf1,zf2,zf3,zf4,zf5,zf6,zf7,zf8,zf9,zg0,zg1,zg2,zg3,zg4,zg5,zg6,zg7,zg8,zg9,zh0,zh1,zh2,zh3,zh4,zh5,zh6,zh7,zh8,zh9,zi0,zi1,zi2,zi3,zi4,zi5,zi6,wSnil,zi7,zi8,zi9,zj0,zj1,zj2,zj3,zj4,zj5,zj6,zj7,zj8,AV.flatB,AV.flatBs,zj9,zk0,zk1,zk2,zk3,zk4,zk5,zk6,act,AV.cells,AV.mk,AV.asSl,AV.asInt,AV.vslOf,wIdx,zk7,zk8,zk9,zl0,zl2,zl3,st0,env0,zl4,zl5,zl6,Nat.reduceAdd,Nat.reduceEqDiff,Nat.reduceLeDiff,↓reduceIte,AV.ofV,unV,← decide_not,zl7,zl8,zl9,zm0,zm1,zm2,zm3,zm4,zm5,zm6,zm7,zm8,zm9,zn0,zn1,zn2,zn3,zn4,zn5,zn6,zn7,reduceCtorEq,rowsOf,pureCells,AV.weak,AV.pureB,AV.pureBs,zn8,zn9,zo0,zo1,zo2,Nat.reduceBEq,zo3,zo4,zo5,zo6,zo7,zo8,zo9,zp0,zp1]
      refine wCall_I (insert7_I L W 100 (l := l) (xs := xs) (i := placeAt l p.parent p.after) hl hxl hx hat (by simp [upd]) (by simp [upd, fl])) ?_
      rintro _ ⟨e2, g2, v2, tg2, tp2, x2⟩ ⟨cp, rfl, q1, q2, q3⟩ he2
      have k2 := q3.2 2 (by omega)
      have k4 := q3.2 4 (by omega)
      simp only [zl4,Nat.reduceAdd,Nat.reduceEqDiff,zo3,zo4] at he2 q1 q2 k2 k4
      subst he2
      clear q3
      obtain ⟨k2g, k2v, -, -⟩ := k2
      obtain ⟨k4g, k4v, -, -⟩ := k4
      simp -implicitDefEqProofs only [k2g,k2v,k4g,k4v,q1,q2,chg,PatchS.row,Item.row,zb0,za9,zq9,wOps_fz',za0,za1,za2,za3,za4,eff,AV.ptrOf,AV.tokOf,za5,za6,AV.weaks,AV.weak1,za7,za8,zb1,zb2,zb3,zb4,zb5,zb6,zb7,zb8,zb9,zc0,zc1,zc2,zc3,zc4,zc5,zc6,zc7,zc8,zc9,zd0,zd1,zd2,zd3,zd4,zd5,zd6,zd7,zd8,zd9,ze0,ze1,ze2,ze3,ze4,ze5,ze6,ze7,ze8,ze9,zf0,zf1,zf2,zf3,zf4,zf5,zf6,zf7,zf8,zf9,zg0,zg1,zg2,zg3,zg4,zg5,zg6,zg7,zg8,zg9,zh0,zh1,zh2,zh3,zh4,zh5,zh6,zh7,zh8,zh9,zi0,zi1,zi2,zi3,zi4,zi5,zi6,wSnil,zi7,zi8,zi9,zj0,zj1,zj2,zj3,zj4,zj5,zj6,zj7,zj8,AV.flatB,AV.flatBs,zj9,zk0,zk1,zk2,zk3,zk4,zk5,zk6,act,AV.cells,AV.mk,AV.asSl,AV.asInt,AV.vslOf,wIdx,zk7,zk8,zk9,zl0,zl1,zl2,zl3,st0,env0,zl4,zl5,zl6,Nat.reduceAdd,Nat.reduceEqDiff,Nat.reduceLeDiff,↓reduceIte,AV.ofV,unV,← decide_not,zl7,zl8,zl9,zm0,zm1,zm2,zm3,zm4,zm5,zm6,zm7,zm8,zm9,zn0,zn1,zn2,zn3,zn4,zn5,zn6,zn7,reduceCtorEq,rowsOf,pureCells,AV.weak,AV.pureB,AV.pureBs,zn8,zn9,zo0,zo1,zo2,Nat.reduceBEq,zo3,zo4,zo5,zo6,zo7,zo8,zo9,zp0,zp1]
      generalize hS : St.frz (σ := Unit) _ 190 7 = s1
      have hlen : (l.take (placeAt l p.parent p.after) ++ (xs ++ l.drop (placeAt l p.parent p.after))).length = l.length + xs.length := by simp; omega
      have hch : chunk 7 (l.length + xs.length) (fl (l.take (placeAt l p.parent p.after) ++ (xs ++ l.drop (placeAt l p.parent p.after)))) = (putS l xs p.parent p.after).map Item.row := by
        have := chunk_flat (rows_len (l.take (placeAt l p.parent p.after) ++ (xs ++ l.drop (placeAt l p.parent p.after))))
        rw [List.length_map, hlen] at this
        exact this
      have f39 : s1.env 39 = .sl 7 .ro ((putS l xs p.parent p.after).map Item.row) := by
        subst hS
        simp only [St.frz,zl4,Nat.reduceEqDiff,zo3,zo4,AV.frz,AV.frz1,Nat.reduceAdd]
        rw [q2, show (fl (l.take (placeAt l p.parent p.after) ++ (xs ++ l.drop (placeAt l p.parent p.after)))).map AV.weakp = fl (l.take (placeAt l p.parent p.after) ++ (xs ++ l.drop (placeAt l p.parent p.after))) from Item.weakps _, if_pos ⟨trivial, trivial, trivial, by rw [fl_len, hlen]; omega⟩, List.drop_zero, hch]
      have f4 : s1.env 4 = .ptr 4 1 0 := by
        subst hS
        simp [St.frz, upd_eq, AV.frz, AV.frz1]
      have fg : s1.gen 4 = 1 := by
        subst hS
        simp [St.frz, upd_eq, k4g]
      have fv : s1.var 4 = [.imm (.slice none 0 0)] := by
        subst hS
        simp [St.frz, upd_eq, AV.frz1, k4v]
      clear hS
      obtain ⟨e, g, v, tg, tp, x'⟩ := s1
      simp only at f4 f39 fg fv
      simp -implicitDefEqProofs only [f4,f39,fg,fv,fills,splice,zq7,zq8,c_patch_change_put,za0,za1,za2,za3,za4,eff,AV.ptrOf,AV.tokOf,za5,za6,AV.weaks,AV.weak1,za7,za8,za9,zb0,zb1,zb2,zb3,zb4,zb5,zb6,zb7,zb8,zb9,zc0,zc1,zc2,zc3,zc4,zc5,zc6,zc7,zc8,zc9,zd0,zd1,zd2,zd3,zd4,zd5,zd6,zd7,zd8,zd9,ze0,ze1,ze2,ze3,ze4,ze5,ze6,ze7,ze8,ze9,zf0,zf1,zf2,zf3,zf4,zf5,zf6,zf7,zf8,zf9,zg0,zg1,zg2,zg3,zg4,zg5,zg6,zg7,zg8,zg9,zh0,zh1,zh2,zh3,zh4,zh5,zh6,zh7,zh8,zh9,zi0,zi1,zi2,zi3,zi4,zi5,zi6,wSnil,zi7,zi8,zi9,zj0,zj1,zj2,zj3,zj4,zj5,zj6,zj7,zj8,AV.flatB,AV.flatBs,zj9,zk0,zk1,zk2,zk3,zk4,zk5,zk6,act,AV.cells,AV.mk,AV.asSl,AV.asInt,AV.vslOf,wIdx,zk7,zk8,zk9,zl0,zl1,zl2,zl3,st0,env0,zl4,zl5,zl6,Nat.reduceAdd,Nat.reduceEqDiff,Nat.reduceLeDiff,↓reduceIte,AV.ofV,unV,← decide_not,zl7,zl8,zl9,zm0,zm1,zm2,zm3,zm4,zm5,zm6,zm7,zm8,zm9,zn0,zn1,zn2,zn3,zn4,zn5,zn6,zn7,reduceCtorEq,rowsOf,pureCells,AV.weak,AV.pureB,AV.pureBs,zn8,zn9,zo0,zo1,zo2,Nat.reduceBEq,zo3,zo4,zo5,zo6,zo7,zo8,zo9,zp0,zp1,wOps_fz']
      simp -implicitDefEqProofs only [zp5,f4,f39,fg,fv,zp2,zp3,zp4,zp6,zp7,zp8,zp9,zq0,zq1,zl4,Nat.reduceEqDiff,↓reduceIte,zm0]
      exact ⟨⟨trivial, Nat.le_refl _, Nat.le_refl _⟩, endR_pure (σ := Unit) (st := st0 () []) (a := .agg [.sl 7 .ro ((putS l xs p.parent p.after).map Item.row)]) rfl rfl⟩
end Go.Av

namespace Go.Av
variable {P : Program} {T : List Nat} {σ : Type}
theorem HasPlace.after {l : List Item} {os : List (List Bs)} (hT : Tree l os) {q a : Bs} (h : HasPlace l q a) (ha : a ≠ nilS) : 0 ≤ findS a l := findS_mem.2 ((itemAt_kind hT).1 (h.2.resolve_left ha).1)
theorem HasPlace.parent {l : List Item} {os : List (List Bs)} (hT : Tree l os) {q a : Bs} (h : HasPlace l q a) (hq : q ≠ nilS) : 0 ≤ findS q l := findS_mem.2 ((itemAt_kind hT).1 (by have := h.1.resolve_left hq; omega))
theorem HasPlace.le {l : List Item} {os : List (List Bs)} (hT : Tree l os) (hl : l.length ≤ 2000) {q a : Bs} (h : HasPlace l q a) : placeAt l q a ≤ l.length := by
  obtain ⟨A, C, sq, oa, oc, k⟩ := hT.place hl h
  rw [k.at', k.eq]
  simp
/-- A code and an error. -/
def resC (l : List Item) (e : Int) : AV := .tup [.agg [.sl 7 .ro (l.map Item.row)], .imm (.int .i64 e)]
theorem resC_end {l : List Item} {e : Int} : endR (resC l e) (resC l e) (st0 () []) := endR_pure rfl rfl
theorem nilC_end {e : Int} : endR (.tup [.agg [.imm (.slice none 0 0)], .imm (.int .i64 e)]) (resC [] e) (st0 () []) := by
  have h1 : (AV.tup [.agg [.imm (.slice none 0 0)], .imm (.int .i64 e)]).weaks = .tup [.agg [.imm (.slice none 0 0)], .imm (.int .i64 e)] := rfl
  unfold endR
  rw [out_pure h1 rfl]
  simp [wOpt, AV.le, AV.les2, AV.le2, AV.les1, AV.le1, resC]
def insE (l : List Item) (p : PatchS) (i : Int) : Int := if 0 ≤ i then 9 else if ¬ HasPlace l p.parent p.after then 14 else if 2000 ≤ l.length then 2 else 0
theorem insert67_con (L : Lay P T) (V : StrLib P T) (W : Ovl7 P T) (l : List Item) (p : PatchS) (i : Int) (hv : ValidC l) (hid : Fit l) :
    Con P T 67 [chg l p i] (resC (if insE l p i = 0 then putS l [p.item] p.parent p.after else []) (insE l p i)) := by
  obtain ⟨os, hT⟩ := hv.tree
  have hl := hv.2
  refine Con_of nul L.t_patch_change_insert [] [] (by exact Nat.le_of_ble_eq_true rfl) ?_
  show wCode _ b_patch_change_insert _ _ _ _
  simp -implicitDefEqProofs only [b_patch_change_insert,chg,PatchS.row,Item.row,fills,splice,zq7,zq8,zb0,za9,za0,za1,za2,za3,za4,eff,AV.ptrOf,AV.tokOf,za5,za6,AV.weaks,AV.weak1,za7,za8,zb1,zb2,zb3,zb4,zb5,zb6,zb7,zb8,zb9,zc0,zc1,zc2,zc3,zc4,zc5,zc6,zc7,zc8,zc9,zd0,zd1,zd2,zd3,zd4,zd5,zd6,zd7,zd8,zd9,ze0,ze1,ze2,ze3,ze4,ze5,ze6,ze7,ze8,ze9,zf0,zf1,zf2,zf3,zf4,zf5,zf6,zf7,zf8,zf9,zg0,zg1,zg2,zg3,zg4,zg5,zg6,zg7,zg8,zg9,zh0,zh1,zh2,zh3,zh4,zh5,zh6,zh7,zh8,zh9,zi0,zi1,zi2,zi3,zi4,zi5,zi6,wSnil,zi7,zi8,zi9,zj0,zj1,zj2,zj3,zj4,zj5,zj6,zj7,zj8,AV.flatB,AV.flatBs,zj9,zk0,zk1,zk2,zk3,zk4,zk5,zk6,act,AV.cells,AV.mk,AV.asSl,AV.asInt,AV.vslOf,wIdx,zk7,zk8,zk9,zl0,zl1,zl2,zl3,st0,env0,zl4,zl5,zl6,Nat.reduceAdd,Nat.reduceEqDiff,Nat.reduceLeDiff,↓reduceIte,AV.ofV,unV,← decide_not,zl7,zl8,zl9,zm0,zm1,zm2,zm3,zm4,zm5,zm6,zm7,zm8,zm9,zn0,zn1,zn2,zn3,zn4,zn5,zn6,zn7,reduceCtorEq,rowsOf,pureCells,AV.weak,AV.pureB,AV.pureBs,zn8,zn9,zo0,zo1,zo2,Nat.reduceBEq,zo3,zo4,zo5,zo6,zo7,zo8,zo9,zp0,zp1]
  refine ⟨fun h1 => ?_, fun h1 => ?_⟩
  · have he : insE l p i = 9 := by simp [insE, h1]
    simp -implicitDefEqProofs only [c_patch_change_insert,za0,za1,za2,za3,za4,eff,AV.ptrOf,AV.tokOf,za5,za6,AV.weaks,AV.weak1,za7,za8,za9,zb0,zb1,zb2,zb3,zb4,zb5,zb6,zb7,zb8,zb9,zc0,zc1,zc2,zc3,zc4,zc5,zc6,zc7,zc8,zc9,zd0,zd1,zd2,zd3,zd4,zd5,zd6,zd7,zd8,zd9,ze0,ze1,ze2,ze3,ze4,ze5,ze6,ze7,ze8,ze9,zf0,zf1,zf2,zf3,zf4,zf5,zf6,zf7,zf8,zf9,zg0,zg1,zg2,zg3,zg4,zg5,zg6,zg7,zg8,zg9,zh0,zh1,zh2,zh3,zh4,zh5,zh6,zh7,zh8,zh9,zi0,zi1,zi2,zi3,zi4,zi5,zi6,wSnil,zi7,zi8,zi9,zj0,zj1,zj2,zj3,zj4,zj5,zj6,zj7,zj8,AV.flatB,AV.flatBs,zj9,zk0,zk1,zk2,zk3,zk4,zk5,zk6,act,AV.cells,AV.mk,AV.asSl,AV.asInt,AV.vslOf,wIdx,zk7,zk8,zk9,zl0,zl1,zl2,zl3,st0,env0,zl4,zl5,zl6,Nat.reduceAdd,Nat.reduceEqDiff,Nat.reduceLeDiff,↓reduceIte,AV.ofV,unV,← decide_not,zl7,zl8,zl9,zm0,zm1,zm2,zm3,zm4,zm5,zm6,zm7,zm8,zm9,zn0,zn1,zn2,zn3,zn4,zn5,zn6,zn7,reduceCtorEq,rowsOf,pureCells,AV.weak,AV.pureB,AV.pureBs,zn8,zn9,zo0,zo1,zo2,Nat.reduceBEq,zo3,zo4,zo5,zo6,zo7,zo8,zo9,zp0,zp1]
    refine ends_ptr (d := 2) (q := 1) (off := 0) (by simp [upd]) ⟨by simp [upd], Nat.le_refl _, by simp [upd]⟩ (b := .agg [.imm (.slice none 0 0)]) (by simp [upd, AV.mk]) ?_
    rw [he]
    exact nilC_end
  refine wCall_imm (exists_con L l p i (by omega)) rfl (AV.les2_refl _) ?_
  simp -implicitDefEqProofs only [PatchS.row,Item.row,fills,splice,zq7,zq8,zb0,za9,zq9,za0,za1,za2,za3,za4,eff,AV.ptrOf,AV.tokOf,za5,za6,AV.weaks,AV.weak1,za7,za8,zb1,zb2,zb3,zb4,zb5,zb6,zb7,zb8,zb9,zc0,zc1,zc2,zc3,zc4,zc5,zc6,zc7,zc8,zc9,zd0,zd1,zd2,zd3,zd4,zd5,zd6,zd7,zd8,zd9,ze0,ze1,ze2,ze3,ze4,ze5,ze6,ze7,ze8,ze9,zf0,zf1,zf2,zf3,zf4,zf5,zf6,zf7,zf8,zf9,zg0,zg1,zg2,zg3,zg4,zg5,zg6,zg7,zg8,zg9,zh0,zh1,zh2,zh3,zh4,zh5,zh6,zh7,zh8,zh9,zi0,zi1,zi2,zi3,zi4,zi5,zi6,wSnil,zi7,zi8,zi9,zj0,zj1,zj2,zj3,zj4,zj5,zj6,zj7,zj8,AV.flatB,AV.flatBs,zj9,zk0,zk1,zk2,zk3,zk4,zk5,zk6,act,AV.cells,AV.mk,AV.asSl,AV.asInt,AV.vslOf,wIdx,zk7,zk8,zk9,zl0,zl1,zl2,zl3,st0,env0,zl4,zl5,zl6,Nat.reduceAdd,Nat.reduceEqDiff,Nat.reduceLeDiff,↓reduceIte,AV.ofV,unV,← decide_not,zl7,zl8,zl9,zm0,zm1,zm2,zm3,zm4,zm5,zm6,zm7,zm8,zm9,zn0,zn1,zn2,zn3,zn4,zn5,zn6,zn7,reduceCtorEq,rowsOf,pureCells,AV.weak,AV.pureB,AV.pureBs,zn8,zn9,zo0,zo1,zo2,Nat.reduceBEq,zo3,zo4,zo5,zo6,zo7,zo8,zo9,zp0,zp1]
  refine ⟨fun h2 => ?_, fun h2 => ⟨fun h3 => ?_, fun h3 => ?_⟩⟩
  · have he : insE l p i = 14 := by simp [insE, h1, h2]
    simp -implicitDefEqProofs only [c_patch_change_insert,za0,za1,za2,za3,za4,eff,AV.ptrOf,AV.tokOf,za5,za6,AV.weaks,AV.weak1,za7,za8,za9,zb0,zb1,zb2,zb3,zb4,zb5,zb6,zb7,zb8,zb9,zc0,zc1,zc2,zc3,zc4,zc5,zc6,zc7,zc8,zc9,zd0,zd1,zd2,zd3,zd4,zd5,zd6,zd7,zd8,zd9,ze0,ze1,ze2,ze3,ze4,ze5,ze6,ze7,ze8,ze9,zf0,zf1,zf2,zf3,zf4,zf5,zf6,zf7,zf8,zf9,zg0,zg1,zg2,zg3,zg4,zg5,zg6,zg7,zg8,zg9,zh0,zh1,zh2,zh3,zh4,zh5,zh6,zh7,zh8,zh9,zi0,zi1,zi2,zi3,zi4,zi5,zi6,wSnil,zi7,zi8,zi9,zj0,zj1,zj2,zj3,zj4,zj5,zj6,zj7,zj8,AV.flatB,AV.flatBs,zj9,zk0,zk1,zk2,zk3,zk4,zk5,zk6,act,AV.cells,AV.mk,AV.asSl,AV.asInt,AV.vslOf,wIdx,zk7,zk8,zk9,zl0,zl1,zl2,zl3,st0,env0,zl4,zl5,zl6,Nat.reduceAdd,Nat.reduceEqDiff,Nat.reduceLeDiff,↓reduceIte,AV.ofV,unV,← decide_not,zl7,zl8,zl9,zm0,zm1,zm2,zm3,zm4,zm5,zm6,zm7,zm8,zm9,zn0,zn1,zn2,zn3,zn4,zn5,zn6,zn7,reduceCtorEq,rowsOf,pureCells,AV.weak,AV.pureB,AV.pureBs,zn8,zn9,zo0,zo1,zo2,Nat.reduceBEq,zo3,zo4,zo5,zo6,zo7,zo8,zo9,zp0,zp1]
    refine ends_ptr (d := 2) (q := 1) (off := 0) (by simp [upd]) ⟨by simp [upd], Nat.le_refl _, by simp [upd]⟩ (b := .agg [.imm (.slice none 0 0)]) (by simp [upd, AV.mk]) ?_
    rw [he]
    exact nilC_end
  · have he : insE l p i = 2 := by
      have : 2000 ≤ l.length := by omega
      simp [insE, h1, h2, this]
    simp -implicitDefEqProofs only [c_patch_change_insert,za0,za1,za2,za3,za4,eff,AV.ptrOf,AV.tokOf,za5,za6,AV.weaks,AV.weak1,za7,za8,za9,zb0,zb1,zb2,zb3,zb4,zb5,zb6,zb7,zb8,zb9,zc0,zc1,zc2,zc3,zc4,zc5,zc6,zc7,zc8,zc9,zd0,zd1,zd2,zd3,zd4,zd5,zd6,zd7,zd8,zd9,ze0,ze1,ze2,ze3,ze4,ze5,ze6,ze7,ze8,ze9,zf0,zf1,zf2,zf3,zf4,zf5,zf6,zf7,zf8,zf9,zg0,zg1,zg2,zg3,zg4,zg5,zg6,zg7,zg8,zg9,zh0,zh1,zh2,zh3,zh4,zh5,zh6,zh7,zh8,zh9,zi0,zi1,zi2,zi3,zi4,zi5,zi6,wSnil,zi7,zi8,zi9,zj0,zj1,zj2,zj3,zj4,zj5,zj6,zj7,zj8,AV.flatB,AV.flatBs,zj9,zk0,zk1,zk2,zk3,zk4,zk5,zk6,act,AV.cells,AV.mk,AV.asSl,AV.asInt,AV.vslOf,wIdx,zk7,zk8,zk9,zl0,zl1,zl2,zl3,st0,env0,zl4,zl5,zl6,Nat.reduceAdd,Nat.reduceEqDiff,Nat.reduceLeDiff,↓reduceIte,AV.ofV,unV,← decide_not,zl7,zl8,zl9,zm0,zm1,zm2,zm3,zm4,zm5,zm6,zm7,zm8,zm9,zn0,zn1,zn2,zn3,zn4,zn5,zn6,zn7,reduceCtorEq,rowsOf,pureCells,AV.weak,AV.pureB,AV.pureBs,zn8,zn9,zo0,zo1,zo2,Nat.reduceBEq,zo3,zo4,zo5,zo6,zo7,zo8,zo9,zp0,zp1]
    refine ends_ptr (d := 2) (q := 1) (off := 0) (by simp [upd]) ⟨by simp [upd], Nat.le_refl _, by simp [upd]⟩ (b := .agg [.imm (.slice none 0 0)]) (by simp [upd, AV.mk]) ?_
    rw [he]
    exact nilC_end
  · have he : insE l p i = 0 := by
      have : ¬ 2000 ≤ l.length := by omega
      simp [insE, h1, h2, this]
    refine wCall_pure (put_con L V W l [p.item] p i (by omega) hid (by simp) (by simp) (fun h => h2.after hT h) (fun h => h2.parent hT h) (h2.le hT hl)) rfl rfl ?_ ?_
    · simp [AV.les2, AV.weaks, AV.weak1, AV.weak, AV.le2, AV.le1, AV.les1_refl, chg, PatchS.row, Item.row]
    simp -implicitDefEqProofs only [c_patch_change_insert,PatchS.row,Item.row,fills,splice,zq7,zq8,zb0,za9,za0,za1,za2,za3,za4,eff,AV.ptrOf,AV.tokOf,za5,za6,AV.weaks,AV.weak1,za7,za8,zb1,zb2,zb3,zb4,zb5,zb6,zb7,zb8,zb9,zc0,zc1,zc2,zc3,zc4,zc5,zc6,zc7,zc8,zc9,zd0,zd1,zd2,zd3,zd4,zd5,zd6,zd7,zd8,zd9,ze0,ze1,ze2,ze3,ze4,ze5,ze6,ze7,ze8,ze9,zf0,zf1,zf2,zf3,zf4,zf5,zf6,zf7,zf8,zf9,zg0,zg1,zg2,zg3,zg4,zg5,zg6,zg7,zg8,zg9,zh0,zh1,zh2,zh3,zh4,zh5,zh6,zh7,zh8,zh9,zi0,zi1,zi2,zi3,zi4,zi5,zi6,wSnil,zi7,zi8,zi9,zj0,zj1,zj2,zj3,zj4,zj5,zj6,zj7,zj8,AV.flatB,AV.flatBs,zj9,zk0,zk1,zk2,zk3,zk4,zk5,zk6,act,AV.cells,AV.mk,AV.asSl,AV.asInt,AV.vslOf,wIdx,zk7,zk8,zk9,zl0,zl1,zl2,zl3,st0,env0,zl4,zl5,zl6,Nat.reduceAdd,Nat.reduceEqDiff,Nat.reduceLeDiff,↓reduceIte,AV.ofV,unV,← decide_not,zl7,zl8,zl9,zm0,zm1,zm2,zm3,zm4,zm5,zm6,zm7,zm8,zm9,zn0,zn1,zn2,zn3,zn4,zn5,zn6,zn7,reduceCtorEq,rowsOf,pureCells,AV.weak,AV.pureB,AV.pureBs,zn8,zn9,zo0,zo1,zo2,Nat.reduceBEq,zo3,zo4,zo5,zo6,zo7,zo8,zo9,zp0,zp1]
    refine ends_ptr (d := 2) (q := 1) (off := 0) (by simp [upd]) ⟨by simp [upd], Nat.le_refl _, by simp [upd]⟩ (b := .agg [.sl 7 .ro ((putS l [p.item] p.parent p.after).map Item.row)]) (by simp [upd, AV.mk]) ?_
    rw [he]
    exact resC_end
theorem replace72_con (L : Lay P T) (l : List Item) (p : PatchS) (n : Nat) (a : Item) (hl : l.length ≤ 1048576) (ha : l[n]? = some a) (e : Int) (he : e = if 400 < p.item.north.size ∨ 400 < p.item.south.size then 2 else 0) :
    Con P T 72 [chg l p n] (resC (if e = 0 then l.set n { a with north := p.item.north, south := p.item.south } else []) e) := by
  have hn := (List.getElem?_eq_some_iff.1 ha).1
  refine Con_of nul L.t_patch_change_replace [] [] (by exact Nat.le_of_ble_eq_true rfl) ?_
  show wCode _ b_patch_change_replace _ _ _ _
  simp -implicitDefEqProofs only [b_patch_change_replace,chg,PatchS.row,Item.row,fills,splice,zq7,zq8,zb0,za9,za0,za1,za2,za3,za4,eff,AV.ptrOf,AV.tokOf,za5,za6,AV.weaks,AV.weak1,za7,za8,zb1,zb2,zb3,zb4,zb5,zb6,zb7,zb8,zb9,zc0,zc1,zc2,zc3,zc4,zc5,zc6,zc7,zc8,zc9,zd0,zd1,zd2,zd3,zd4,zd5,zd6,zd7,zd8,zd9,ze0,ze1,ze2,ze3,ze4,ze5,ze6,ze7,ze8,ze9,zf0,zf1,zf2,zf3,zf4,zf5,zf6,zf7,zf8,zf9,zg0,zg1,zg2,zg3,zg4,zg5,zg6,zg7,zg8,zg9,zh0,zh1,zh2,zh3,zh4,zh5,zh6,zh7,zh8,zh9,zi0,zi1,zi2,zi3,zi4,zi5,zi6,wSnil,zi7,zi8,zi9,zj0,zj1,zj2,zj3,zj4,zj5,zj6,zj7,zj8,AV.flatB,AV.flatBs,zj9,zk0,zk1,zk2,zk3,zk4,zk5,zk6,act,AV.cells,AV.mk,AV.asSl,AV.asInt,AV.vslOf,wIdx,zk7,zk8,zk9,zl0,zl1,zl2,zl3,st0,env0,zl4,zl5,zl6,Nat.reduceAdd,Nat.reduceEqDiff,Nat.reduceLeDiff,↓reduceIte,AV.ofV,unV,← decide_not,zl7,zl8,zl9,zm0,zm1,zm2,zm3,zm4,zm5,zm6,zm7,zm8,zm9,zn0,zn1,zn2,zn3,zn4,zn5,zn6,zn7,reduceCtorEq,rowsOf,pureCells,AV.weak,AV.pureB,AV.pureBs,zn8,zn9,zo0,zo1,zo2,Nat.reduceBEq,zo3,zo4,zo5,zo6,zo7,zo8,zo9,zp0,zp1,zq9,zr1,zr2,zr3,and_imp,zr4,zr0]
  refine ⟨⟨by omega, by omega⟩, fun a' ha' => ?_⟩
  rw [ha] at ha'
  injection ha' with ha'
  subst ha'
  have tooBig : e = 2 → (∀ e' : Nat → AV, ∀ g v tg tp, ∀ x : Unit, e' 2 = .ptr 2 1 0 → g 2 = 1 → v 2 = [.imm (.slice none 0 0)] → e' 3 = .imm (.int .i64 2) → ends c_patch_change_replace (resC (if e = 0 then l.set n { a with north := p.item.north, south := p.item.south } else []) e) ⟨e', g, v, tg, tp, x⟩) := by
    rintro rfl e' g v tg tp x h1 h2 h3 h4
    refine ends_ptr (d := 2) (q := 1) (off := 0) h1 ⟨h2.symm, Nat.le_refl _, by simp [h3]⟩ (b := .agg [.imm (.slice none 0 0)]) (by simp [h3, AV.mk]) ?_
    rw [h4]
    exact nilC_end
  refine ⟨rfl, fun h1 => ⟨fun h2 => ?_, fun h2 => ?_⟩, fun h1 => ?_⟩
  · exact tooBig (by rw [he, if_pos (.inr (by omega))]) _ _ _ _ _ _ (by simp [upd]) (by simp [upd]) (by simp [upd]) (by simp [upd])
  · have he0 : e = 0 := by rw [he, if_neg (by omega)]
    refine wCall_pure (with_con L l p n { a with north := p.item.north, south := p.item.south } hl hn) rfl rfl ?_ ?_
    · exact AV.les2_refl _
    simp -implicitDefEqProofs only [c_patch_change_replace,fills,splice,zq7,zq8,za9,za0,za1,za2,za3,za4,eff,AV.ptrOf,AV.tokOf,za5,za6,AV.weaks,AV.weak1,za7,za8,zb0,zb1,zb2,zb3,zb4,zb5,zb6,zb7,zb8,zb9,zc0,zc1,zc2,zc3,zc4,zc5,zc6,zc7,zc8,zc9,zd0,zd1,zd2,zd3,zd4,zd5,zd6,zd7,zd8,zd9,ze0,ze1,ze2,ze3,ze4,ze5,ze6,ze7,ze8,ze9,zf0,zf1,zf2,zf3,zf4,zf5,zf6,zf7,zf8,zf9,zg0,zg1,zg2,zg3,zg4,zg5,zg6,zg7,zg8,zg9,zh0,zh1,zh2,zh3,zh4,zh5,zh6,zh7,zh8,zh9,zi0,zi1,zi2,zi3,zi4,zi5,zi6,wSnil,zi7,zi8,zi9,zj0,zj1,zj2,zj3,zj4,zj5,zj6,zj7,zj8,AV.flatB,AV.flatBs,zj9,zk0,zk1,zk2,zk3,zk4,zk5,zk6,act,AV.cells,AV.mk,AV.asSl,AV.asInt,AV.vslOf,wIdx,zk7,zk8,zk9,zl0,zl1,zl2,zl3,st0,env0,zl4,zl5,zl6,Nat.reduceAdd,Nat.reduceEqDiff,Nat.reduceLeDiff,↓reduceIte,AV.ofV,unV,← decide_not,zl7,zl8,zl9,zm0,zm1,zm2,zm3,zm4,zm5,zm6,zm7,zm8,zm9,zn0,zn1,zn2,zn3,zn4,zn5,zn6,zn7,reduceCtorEq,rowsOf,pureCells,AV.weak,AV.pureB,AV.pureBs,zn8,zn9,zo0,zo1,zo2,Nat.reduceBEq,zo3,zo4,zo5,zo6,zo7,zo8,zo9,zp0,zp1]
    refine ends_ptr (d := 2) (q := 1) (off := 0) (by simp [upd]) ⟨by simp [upd], Nat.le_refl _, by simp [upd]⟩ (b := .agg [.sl 7 .ro ((l.set n { a with north := p.item.north, south := p.item.south }).map Item.row)]) (by simp [upd, AV.mk]) ?_
    rw [he0, if_pos rfl]
    exact resC_end
  · exact tooBig (by rw [he, if_pos (.inl (by omega))]) _ _ _ _ _ _ (by simp [upd]) (by simp [upd]) (by simp [upd]) (by simp [upd])
theorem index_spec : ∀ (s sub : List UInt8), 0 ≤ Lib.index s sub → ∃ i : Nat, Lib.index s sub = i ∧ Lib.occAt s sub i = true ∧ i ≤ s.length ∧ ∀ j, j < i → Lib.occAt s sub j = false
  | [], sub, h => by
    unfold Lib.index at h ⊢
    cases sub with
    | nil => exact ⟨0, rfl, rfl, Nat.le_refl _, fun j hj => absurd hj (by omega)⟩
    | cons x r => simp at h
  | b :: l, sub, h => by
    unfold Lib.index at h ⊢
    by_cases h1 : sub.isPrefixOf (b :: l) = true
    · exact ⟨0, by rw [if_pos h1]; rfl, by simpa [Lib.occAt] using h1, Nat.zero_le _, fun j hj => absurd hj (by omega)⟩
    · rw [if_neg h1] at h ⊢
      split at h
      · simp at h
      · rename_i h2
        have hge := Lib.index_ge l sub
        have h3 : Lib.index l sub ≠ -1 := fun e => h2 (by rw [e]; rfl)
        obtain ⟨i, e, ho, hi, hn⟩ := index_spec l sub (by omega)
        rw [if_neg h2]
        refine ⟨i + 1, by rw [e]; push_cast; rfl, by simpa [Lib.occAt] using ho, by simp; omega, fun j hj => ?_⟩
        cases j with
        | zero =>
          show sub.isPrefixOf ((b :: l).drop 0) = false
          rw [List.drop_zero]
          cases e : sub.isPrefixOf (b :: l) with
          | false => rfl
          | true => exact absurd e h1
        | succ j => simpa [Lib.occAt] using hn j (by omega)
theorem idxI_room {t f : Bs} (h : 0 ≤ idxI t f) : ∃ i : Nat, idxI t f = i ∧ i + f.size ≤ t.size := by
  obtain ⟨i, e, ho, hi, _⟩ := index_spec _ _ h
  refine ⟨i, e, ?_⟩
  rcases Lib.occAt_room ho with h1 | h1
  · simpa using h1
  · have : f.size = 0 := by have := congrArg List.length h1; simpa using this
    have h2 : i ≤ t.size := by simpa using hi
    omega
def wordsE (a : Item) (p : PatchS) : Int := if ¬ OnceP (textOf p.lang a) p.old then 15 else if 400 < (swapT (textOf p.lang a) p.old p.new).size then 2 else 0
theorem words68_con (L : Lay P T) (V : StrLib P T) (l : List Item) (p : PatchS) (n : Nat) (a : Item) (hl : l.length ≤ 1048576) (ha : l[n]? = some a) (hlang : p.lang = 1 ∨ p.lang = 2) (ht : (textOf p.lang a).size ≤ 1048576) (hnew : p.new.size ≤ 1048576) (hold : p.old.size ≤ 1048576) :
    Con P T 68 [chg l p n] (resC (if wordsE a p = 0 then l.set n (withText p.lang a (swapT (textOf p.lang a) p.old p.new)) else []) (wordsE a p)) := by
  have hn := (List.getElem?_eq_some_iff.1 ha).1
  have w0 : IntKind.i64.wrap (1 - 1) = 0 := rfl
  have w1 : IntKind.i64.wrap (2 - 1) = 1 := rfl
  have hsw : ∀ m : Nat, idxI (textOf p.lang a) p.old = m → (textOf p.lang a).extract 0 m ++ p.new ++ (textOf p.lang a).extract (m + p.old.size) (textOf p.lang a).size = swapT (textOf p.lang a) p.old p.new := by
    intro m hm
    rw [swapT, hm, Int.toNat_natCast]
  have bad : ∀ (e : Int), e ≠ 0 → wordsE a p = e → (∀ e' : Nat → AV, ∀ g v tg tp, ∀ x : Unit, e' 2 = .ptr 2 1 0 → g 2 = 1 → v 2 = [.imm (.slice none 0 0)] → e' 3 = .imm (.int .i64 e) → ends c_patch_change_words (resC (if wordsE a p = 0 then l.set n (withText p.lang a (swapT (textOf p.lang a) p.old p.new)) else []) (wordsE a p)) ⟨e', g, v, tg, tp, x⟩) := by
    rintro e he0 he e' g v tg tp x h1 h2 h3 h4
    refine ends_ptr (d := 2) (q := 1) (off := 0) h1 ⟨h2.symm, Nat.le_refl _, by simp [h3]⟩ (b := .agg [.imm (.slice none 0 0)]) (by simp [h3, AV.mk]) ?_
    rw [h4, he, if_neg he0]
    exact nilC_end
  have good : wordsE a p = 0 → (∀ e' : Nat → AV, ∀ g v tg tp, ∀ x : Unit, e' 2 = .ptr 2 1 0 → g 2 = 1 → v 2 = [.sl 7 .ro ((l.set n (withText p.lang a (swapT (textOf p.lang a) p.old p.new))).map Item.row)] → e' 3 = .imm (.int .i64 0) → ends c_patch_change_words (resC (if wordsE a p = 0 then l.set n (withText p.lang a (swapT (textOf p.lang a) p.old p.new)) else []) (wordsE a p)) ⟨e', g, v, tg, tp, x⟩) := by
    rintro he e' g v tg tp x h1 h2 h3 h4
    refine ends_ptr (d := 2) (q := 1) (off := 0) h1 ⟨h2.symm, Nat.le_refl _, by simp [h3]⟩ (b := .agg [.sl 7 .ro ((l.set n (withText p.lang a (swapT (textOf p.lang a) p.old p.new))).map Item.row)]) (by simp [h3, AV.mk]) ?_
    rw [h4, he, if_pos rfl]
    exact resC_end
  generalize hR : resC (if wordsE a p = 0 then l.set n (withText p.lang a (swapT (textOf p.lang a) p.old p.new)) else []) (wordsE a p) = RR at *
  clear hR
  refine Con_of nul L.t_patch_change_words [] [] (by exact Nat.le_of_ble_eq_true rfl) ?_
  show wCode _ b_patch_change_words _ _ _ _
  rcases hlang with hlang | hlang
  · have hT : textOf p.lang a = a.north := by rw [hlang]; rfl
    rw [hT] at ht hsw
    simp -implicitDefEqProofs only [b_patch_change_words,chg,PatchS.row,Item.row,hlang,w0,w1,fills,splice,zn1,zn2,zn0,zm9,zq7,zq8,zb0,za9,boundOf,Option.map_none,za0,za1,za2,za3,za4,eff,AV.ptrOf,AV.tokOf,za5,za6,AV.weaks,AV.weak1,za7,za8,zb1,zb2,zb3,zb4,zb5,zb6,zb7,zb8,zb9,zc0,zc1,zc2,zc3,zc4,zc5,zc6,zc7,zc8,zc9,zd0,zd1,zd2,zd3,zd4,zd5,zd6,zd7,zd8,zd9,ze0,ze1,ze2,ze3,ze4,ze5,ze6,ze7,ze8,ze9,zf0,zf1,zf2,zf3,zf4,zf5,zf6,zf7,zf8,zf9,zg0,zg1,zg2,zg3,zg4,zg5,zg6,zg7,zg8,zg9,zh0,zh1,zh2,zh3,zh4,zh5,zh6,zh7,zh8,zh9,zi0,zi1,zi2,zi3,zi4,zi5,zi6,wSnil,zi7,zi8,zi9,zj0,zj1,zj2,zj3,zj4,zj5,zj6,zj7,zj8,AV.flatB,AV.flatBs,zj9,zk0,zk1,zk2,zk3,zk4,zk5,zk6,act,AV.cells,AV.mk,AV.asSl,AV.asInt,AV.vslOf,wIdx,zk7,zk8,zk9,zl0,zl1,zl2,zl3,st0,env0,zl4,zl5,zl6,Nat.reduceAdd,Nat.reduceEqDiff,Nat.reduceLeDiff,↓reduceIte,AV.ofV,unV,← decide_not,zl7,zl8,zl9,zm0,zm1,zm2,zm3,zm4,zm5,zm6,zm7,zm8,zn3,zn4,zn5,zn6,zn7,reduceCtorEq,rowsOf,pureCells,AV.weak,AV.pureB,AV.pureBs,zn8,zn9,zo0,zo1,zo2,Nat.reduceBEq,zo3,zo4,zo5,zo6,zo7,zo8,zo9,zp0,zp1,zq9,zr1,zr2,zr3,and_imp,zr4,zr0,Int.toNat_zero,Int.toNat_one,Nat.zero_mul,Nat.one_mul]
    refine ⟨⟨by omega, by omega⟩, fun a' ha' => ?_⟩
    rw [ha] at ha'
    injection ha' with ha'
    subst ha'
    refine ⟨by decide, ?_⟩
    refine wCall_pure (once_con L V a.north p.old ht) rfl rfl ?_ ?_
    · exact AV.les2_refl _
    simp -implicitDefEqProofs only [chg,PatchS.row,Item.row,hlang,w0,w1,fills,splice,zn1,zn2,zn0,zm9,zq7,zq8,zb0,za9,boundOf,Option.map_none,za0,za1,za2,za3,za4,eff,AV.ptrOf,AV.tokOf,za5,za6,AV.weaks,AV.weak1,za7,za8,zb1,zb2,zb3,zb4,zb5,zb6,zb7,zb8,zb9,zc0,zc1,zc2,zc3,zc4,zc5,zc6,zc7,zc8,zc9,zd0,zd1,zd2,zd3,zd4,zd5,zd6,zd7,zd8,zd9,ze0,ze1,ze2,ze3,ze4,ze5,ze6,ze7,ze8,ze9,zf0,zf1,zf2,zf3,zf4,zf5,zf6,zf7,zf8,zf9,zg0,zg1,zg2,zg3,zg4,zg5,zg6,zg7,zg8,zg9,zh0,zh1,zh2,zh3,zh4,zh5,zh6,zh7,zh8,zh9,zi0,zi1,zi2,zi3,zi4,zi5,zi6,wSnil,zi7,zi8,zi9,zj0,zj1,zj2,zj3,zj4,zj5,zj6,zj7,zj8,AV.flatB,AV.flatBs,zj9,zk0,zk1,zk2,zk3,zk4,zk5,zk6,act,AV.cells,AV.mk,AV.asSl,AV.asInt,AV.vslOf,wIdx,zk7,zk8,zk9,zl0,zl1,zl2,zl3,st0,env0,zl4,zl5,zl6,Nat.reduceAdd,Nat.reduceEqDiff,Nat.reduceLeDiff,↓reduceIte,AV.ofV,unV,← decide_not,zl7,zl8,zl9,zm0,zm1,zm2,zm3,zm4,zm5,zm6,zm7,zm8,zn3,zn4,zn5,zn6,zn7,reduceCtorEq,rowsOf,pureCells,AV.weak,AV.pureB,AV.pureBs,zn8,zn9,zo0,zo1,zo2,Nat.reduceBEq,zo3,zo4,zo5,zo6,zo7,zo8,zo9,zp0,zp1,zq9,zr1,zr2,zr3,and_imp,zr4,zr0,Int.toNat_zero,Int.toNat_one,Nat.zero_mul,Nat.one_mul]
    refine ⟨rfl, fun h1 => bad 15 (by decide) (by simp [wordsE, hT, h1]) _ _ _ _ _ _ (by simp [upd]) (by simp [upd]) (by simp [upd]) (by simp [upd]), fun h1 => ?_⟩
    obtain ⟨m, hm, hroom⟩ := idxI_room h1.1
    have hsw := hsw m hm
    rw [hm]
    have hw2 : IntKind.i64.wrap ((m : Int) + p.old.size) = ((m + p.old.size : Nat) : Int) := by rw [IntWalk.i64_in _ (by omega)]; rfl
    rw [hw2]
    have z1 : (a.north.extract 0 m).size ≤ a.north.size := by simp; omega
    have z2 : (a.north.extract (m + p.old.size) a.north.size).size ≤ a.north.size := by simp
    simp only [zr0,hsw]
    refine ⟨⟨by omega, by omega, by omega⟩, by omega, ⟨by omega, by omega, by omega⟩, by rw [ByteArray.size_append]; omega, rfl, fun h2 => ?_, fun h2 => ?_⟩
    · exact bad 2 (by decide) (by rw [wordsE, if_neg (by rw [hT]; simpa using h1), if_pos (by rw [hT]; omega)]) _ _ _ _ _ _ (by simp [upd]) (by simp [upd]) (by simp [upd]) (by simp [upd])
    · refine wCall_pure (with_con L l p n (withText p.lang a (swapT (textOf p.lang a) p.old p.new)) hl hn) rfl rfl ?_ ?_
      · rw [hT, hlang]
        simp [AV.les2, AV.weaks, AV.weak1, AV.weak, AV.le2, AV.le1, AV.les1_refl, chg, PatchS.row, Item.row, withText, hlang]
      simp -implicitDefEqProofs only [fills,splice,zq7,zq8,za9,za0,za1,za2,za3,za4,eff,AV.ptrOf,AV.tokOf,za5,za6,AV.weaks,AV.weak1,za7,za8,zb0,zb1,zb2,zb3,zb4,zb5,zb6,zb7,zb8,zb9,zc0,zc1,zc2,zc3,zc4,zc5,zc6,zc7,zc8,zc9,zd0,zd1,zd2,zd3,zd4,zd5,zd6,zd7,zd8,zd9,ze0,ze1,ze2,ze3,ze4,ze5,ze6,ze7,ze8,ze9,zf0,zf1,zf2,zf3,zf4,zf5,zf6,zf7,zf8,zf9,zg0,zg1,zg2,zg3,zg4,zg5,zg6,zg7,zg8,zg9,zh0,zh1,zh2,zh3,zh4,zh5,zh6,zh7,zh8,zh9,zi0,zi1,zi2,zi3,zi4,zi5,zi6,wSnil,zi7,zi8,zi9,zj0,zj1,zj2,zj3,zj4,zj5,zj6,zj7,zj8,AV.flatB,AV.flatBs,zj9,zk0,zk1,zk2,zk3,zk4,zk5,zk6,act,AV.cells,AV.mk,AV.asSl,AV.asInt,AV.vslOf,wIdx,zk7,zk8,zk9,zl0,zl1,zl2,zl3,st0,env0,zl4,zl5,zl6,Nat.reduceAdd,Nat.reduceEqDiff,Nat.reduceLeDiff,↓reduceIte,AV.ofV,unV,← decide_not,zl7,zl8,zl9,zm0,zm1,zm2,zm3,zm4,zm5,zm6,zm7,zm8,zm9,zn0,zn1,zn2,zn3,zn4,zn5,zn6,zn7,reduceCtorEq,rowsOf,pureCells,AV.weak,AV.pureB,AV.pureBs,zn8,zn9,zo0,zo1,zo2,Nat.reduceBEq,zo3,zo4,zo5,zo6,zo7,zo8,zo9,zp0,zp1]
      exact good (by rw [wordsE, if_neg (by rw [hT]; simpa using h1), if_neg (by rw [hT]; omega)]) _ _ _ _ _ _ (by simp [upd]) (by simp [upd]) (by simp [upd]) (by simp [upd])
  · have hT : textOf p.lang a = a.south := by rw [hlang]; rfl
    rw [hT] at ht hsw
    simp -implicitDefEqProofs only [b_patch_change_words,chg,PatchS.row,Item.row,hlang,w0,w1,fills,splice,zn1,zn2,zn0,zm9,zq7,zq8,zb0,za9,boundOf,Option.map_none,za0,za1,za2,za3,za4,eff,AV.ptrOf,AV.tokOf,za5,za6,AV.weaks,AV.weak1,za7,za8,zb1,zb2,zb3,zb4,zb5,zb6,zb7,zb8,zb9,zc0,zc1,zc2,zc3,zc4,zc5,zc6,zc7,zc8,zc9,zd0,zd1,zd2,zd3,zd4,zd5,zd6,zd7,zd8,zd9,ze0,ze1,ze2,ze3,ze4,ze5,ze6,ze7,ze8,ze9,zf0,zf1,zf2,zf3,zf4,zf5,zf6,zf7,zf8,zf9,zg0,zg1,zg2,zg3,zg4,zg5,zg6,zg7,zg8,zg9,zh0,zh1,zh2,zh3,zh4,zh5,zh6,zh7,zh8,zh9,zi0,zi1,zi2,zi3,zi4,zi5,zi6,wSnil,zi7,zi8,zi9,zj0,zj1,zj2,zj3,zj4,zj5,zj6,zj7,zj8,AV.flatB,AV.flatBs,zj9,zk0,zk1,zk2,zk3,zk4,zk5,zk6,act,AV.cells,AV.mk,AV.asSl,AV.asInt,AV.vslOf,wIdx,zk7,zk8,zk9,zl0,zl1,zl2,zl3,st0,env0,zl4,zl5,zl6,Nat.reduceAdd,Nat.reduceEqDiff,Nat.reduceLeDiff,↓reduceIte,AV.ofV,unV,← decide_not,zl7,zl8,zl9,zm0,zm1,zm2,zm3,zm4,zm5,zm6,zm7,zm8,zn3,zn4,zn5,zn6,zn7,reduceCtorEq,rowsOf,pureCells,AV.weak,AV.pureB,AV.pureBs,zn8,zn9,zo0,zo1,zo2,Nat.reduceBEq,zo3,zo4,zo5,zo6,zo7,zo8,zo9,zp0,zp1,zq9,zr1,zr2,zr3,and_imp,zr4,zr0,Int.toNat_zero,Int.toNat_one,Nat.zero_mul,Nat.one_mul]
    refine ⟨⟨by omega, by omega⟩, fun a' ha' => ?_⟩
    rw [ha] at ha'
    injection ha' with ha'
    subst ha'
    refine ⟨by decide, ?_⟩
    refine wCall_pure (once_con L V a.south p.old ht) rfl rfl ?_ ?_
    · exact AV.les2_refl _
    simp -implicitDefEqProofs only [chg,PatchS.row,Item.row,hlang,w0,w1,fills,splice,zn1,zn2,zn0,zm9,zq7,zq8,zb0,za9,boundOf,Option.map_none,za0,za1,za2,za3,za4,eff,AV.ptrOf,AV.tokOf,za5,za6,AV.weaks,AV.weak1,za7,za8,zb1,zb2,zb3,zb4,zb5,zb6,zb7,zb8,zb9,zc0,zc1,zc2,zc3,zc4,zc5,zc6,zc7,zc8,zc9,zd0,zd1,zd2,zd3,zd4,zd5,zd6,zd7,zd8,zd9,ze0,ze1,ze2,ze3,ze4,ze5,ze6,ze7,ze8,ze9,zf0,zf1,zf2,zf3,zf4,zf5,zf6,zf7,zf8,zf9,zg0,zg1,zg2,zg3,zg4,zg5,zg6,zg7,zg8,zg9,zh0,zh1,zh2,zh3,zh4,zh5,zh6,zh7,zh8,zh9,zi0,zi1,zi2,zi3,zi4,zi5,zi6,wSnil,zi7,zi8,zi9,zj0,zj1,zj2,zj3,zj4,zj5,zj6,zj7,zj8,AV.flatB,AV.flatBs,zj9,zk0,zk1,zk2,zk3,zk4,zk5,zk6,act,AV.cells,AV.mk,AV.asSl,AV.asInt,AV.vslOf,wIdx,zk7,zk8,zk9,zl0,zl1,zl2,zl3,st0,env0,zl4,zl5,zl6,Nat.reduceAdd,Nat.reduceEqDiff,Nat.reduceLeDiff,↓reduceIte,AV.ofV,unV,← decide_not,zl7,zl8,zl9,zm0,zm1,zm2,zm3,zm4,zm5,zm6,zm7,zm8,zn3,zn4,zn5,zn6,zn7,reduceCtorEq,rowsOf,pureCells,AV.weak,AV.pureB,AV.pureBs,zn8,zn9,zo0,zo1,zo2,Nat.reduceBEq,zo3,zo4,zo5,zo6,zo7,zo8,zo9,zp0,zp1,zq9,zr1,zr2,zr3,and_imp,zr4,zr0,Int.toNat_zero,Int.toNat_one,Nat.zero_mul,Nat.one_mul]
    refine ⟨rfl, fun h1 => bad 15 (by decide) (by simp [wordsE, hT, h1]) _ _ _ _ _ _ (by simp [upd]) (by simp [upd]) (by simp [upd]) (by simp [upd]), fun h1 => ?_⟩
    obtain ⟨m, hm, hroom⟩ := idxI_room h1.1
    have hsw := hsw m hm
    rw [hm]
    have hw2 : IntKind.i64.wrap ((m : Int) + p.old.size) = ((m + p.old.size : Nat) : Int) := by rw [IntWalk.i64_in _ (by omega)]; rfl
    rw [hw2]
    have z1 : (a.south.extract 0 m).size ≤ a.south.size := by simp; omega
    have z2 : (a.south.extract (m + p.old.size) a.south.size).size ≤ a.south.size := by simp
    simp only [zr0,hsw]
    refine ⟨⟨by omega, by omega, by omega⟩, by omega, ⟨by omega, by omega, by omega⟩, by rw [ByteArray.size_append]; omega, rfl, fun h2 => ?_, fun h2 => ?_⟩
    · exact bad 2 (by decide) (by rw [wordsE, if_neg (by rw [hT]; simpa using h1), if_pos (by rw [hT]; omega)]) _ _ _ _ _ _ (by simp [upd]) (by simp [upd]) (by simp [upd]) (by simp [upd])
    · refine wCall_pure (with_con L l p n (withText p.lang a (swapT (textOf p.lang a) p.old p.new)) hl hn) rfl rfl ?_ ?_
      · rw [hT, hlang]
        simp [AV.les2, AV.weaks, AV.weak1, AV.weak, AV.le2, AV.le1, AV.les1_refl, chg, PatchS.row, Item.row, withText, hlang]
      simp -implicitDefEqProofs only [fills,splice,zq7,zq8,za9,za0,za1,za2,za3,za4,eff,AV.ptrOf,AV.tokOf,za5,za6,AV.weaks,AV.weak1,za7,za8,zb0,zb1,zb2,zb3,zb4,zb5,zb6,zb7,zb8,zb9,zc0,zc1,zc2,zc3,zc4,zc5,zc6,zc7,zc8,zc9,zd0,zd1,zd2,zd3,zd4,zd5,zd6,zd7,zd8,zd9,ze0,ze1,ze2,ze3,ze4,ze5,ze6,ze7,ze8,ze9,zf0,zf1,zf2,zf3,zf4,zf5,zf6,zf7,zf8,zf9,zg0,zg1,zg2,zg3,zg4,zg5,zg6,zg7,zg8,zg9,zh0,zh1,zh2,zh3,zh4,zh5,zh6,zh7,zh8,zh9,zi0,zi1,zi2,zi3,zi4,zi5,zi6,wSnil,zi7,zi8,zi9,zj0,zj1,zj2,zj3,zj4,zj5,zj6,zj7,zj8,AV.flatB,AV.flatBs,zj9,zk0,zk1,zk2,zk3,zk4,zk5,zk6,act,AV.cells,AV.mk,AV.asSl,AV.asInt,AV.vslOf,wIdx,zk7,zk8,zk9,zl0,zl1,zl2,zl3,st0,env0,zl4,zl5,zl6,Nat.reduceAdd,Nat.reduceEqDiff,Nat.reduceLeDiff,↓reduceIte,AV.ofV,unV,← decide_not,zl7,zl8,zl9,zm0,zm1,zm2,zm3,zm4,zm5,zm6,zm7,zm8,zm9,zn0,zn1,zn2,zn3,zn4,zn5,zn6,zn7,reduceCtorEq,rowsOf,pureCells,AV.weak,AV.pureB,AV.pureBs,zn8,zn9,zo0,zo1,zo2,Nat.reduceBEq,zo3,zo4,zo5,zo6,zo7,zo8,zo9,zp0,zp1]
      exact good (by rw [wordsE, if_neg (by rw [hT]; simpa using h1), if_neg (by rw [hT]; omega)]) _ _ _ _ _ _ (by simp [upd]) (by simp [upd]) (by simp [upd]) (by simp [upd])
end Go.Av

namespace Go.Av
variable {P : Program} {T : List Nat} {σ : Type}
/-- The built-in clear, in slices.Delete. -/
structure Clr7 (P : Program) (T : List Nat) : Prop where
  prf : ∃ (t e : TypeId) (i : TypeInfo) (zv : Value), opsOf P T 107 6 5 = .call { callee := .builtin .clear, args := #[.tmp 31], argTypes := #[t] } ∧ P.underlying t = some (.slice e) ∧ P.info? e = some i ∧ i.zero = some zv ∧ zv.cells.size = i.size ∧ i.size = 7 ∧ zv.cells.toList.all (·.oneCell') = true
theorem clr7_step (V : Clr7 P T) {c : Cx σ} {st : St σ} {d g off n : Nat} {cp : Option Nat} (hx : st.env 31 = .vsl d g 7 off n cp) (hg : g = st.gen d) (hn : n ≠ 0) :
    HStep P c (opsOf P T 107 6 5) st (fun u s => u = undefA ∧ ∃ Z : List AV, Z.length = n * 7 ∧ s = { st with var := upd st.var d (splice (padTo (st.var d) (off + n * 7)) off Z) }) := by
  obtain ⟨t, e, i, zv, e1, h1, h2, h3, h4, h5, h6⟩ := V.prf
  rw [e1]
  intro dst type pos after guard a w ow τ ob hF K Q hK
  refine HStep_clear h1 h2 h3 h4 (by omega) h6 (x := .tmp 31) (d := d) (g := g) (off := off) (n := n) (cp := cp) (by rw [h5]; exact hx) hg hn dst type pos after guard a w ow τ ob hF K Q ?_
  rintro x st' v w' ow' τ' ob' ⟨rfl, rfl⟩ hF' hR
  rw [h5] at hF' hR
  exact hK _ _ _ _ _ _ _ ⟨rfl, _, by simp [h4, h5], rfl⟩ hF' hR
theorem cut_fl {l : List Item} {i j : Nat} (hij : i ≤ j) (hj : j ≤ l.length) : (fl l).take (i * 7) ++ ((fl l).drop (j * 7)).take ((l.length - j) * 7) = fl (l.take i ++ l.drop j) := by
  rw [fl_take, fl_drop, List.take_of_length_le (l := fl (l.drop j)) (by rw [fl_len]; simp), fl_append]
theorem delete7_I (L : Lay P T) (V : Clr7 P T) {O : Outs σ} {nt k0 : Nat} {th : List Nat} {fz : List (Nat × Nat × Nat)} (k : Nat) {st : St σ} {l : List Item} {i j : Nat} (hl : l.length ≤ 100000) (hij : i < j) (hj : j ≤ l.length)
    (hg1 : 1 ≤ st.gen (k + 90)) (hv : st.var (k + 90) = fl l) :
    (sys O P T nt k0 th fz).I 107 [.vsl (k + 90) (st.gen (k + 90)) 7 0 l.length none, .imm (.int .i64 i), .imm (.int .i64 j)] st (fun r s => ∃ cp Z, r = .vsl (k + 26) (s.gen (k + 26)) 7 0 (i + (l.length - j)) cp ∧ 1 ≤ s.gen (k + 26) ∧ s.var (k + 26) = fl (l.take i ++ l.drop j) ++ Z ∧ Oth k (k + 91) st s) := by
  refine I_cap fun cc hcc hcm => ?_
  have hfl := fl_len l
  refine I_of L.t_slices_Delete k [] [] (by exact Nat.le_of_ble_eq_true rfl) ?_
  show wCode _ (b_slices_Delete _) _ _ _ _
  obtain ⟨e0, g0, v0, tg0, tp0, x0⟩ := st
  simp only at hv hg1
  have hne : ¬ (i : Int) = j := by omega
  have hkc : keepCap (some cc) (i + (l.length - j)) = some cc := by simp only [keepCap]; rw [if_pos (by omega)]
  simp -implicitDefEqProofs only [b_slices_Delete,za0,za1,za2,za3,za4,eff,AV.ptrOf,AV.tokOf,za5,za6,AV.weaks,AV.weak1,za7,za8,za9,zb0,zb1,zb2,zb3,zb4,zb5,zb6,zb7,zb8,zb9,zc0,zc1,zc2,zc3,zc4,zc5,zc6,zc7,zc8,zc9,zd0,zd1,zd2,zd3,zd4,zd5,zd6,zd7,zd8,zd9,ze0,ze1,ze2,ze3,ze4,ze5,ze6,ze7,ze8,ze9,zf0,zf1,zf2,zf3,zf4,zf5,zf6,zf7,zf8,zf9,zg0,zg1,zg2,zg3,zg4,zg5,zg6,zg7,zg8,zg9,zh0,zh1,zh2,zh3,zh4,zh5,zh6,zh7,zh8,zh9,zi0,zi1,zi2,zi3,zi4,zi5,zi6,wSnil,zi7,zi8,zi9,zj0,zj1,zj2,zj3,zj4,zj5,zj6,zj7,zj8,AV.flatB,AV.flatBs,zj9,zk0,zk1,zk2,zk3,zk4,zk5,zk6,act,AV.cells,AV.mk,AV.asSl,AV.asInt,AV.vslOf,wIdx,zk7,zk8,zk9,zl0,zl1,zl2,zl3,st0,env0,zl4,zl5,zl6,Nat.reduceAdd,Nat.reduceEqDiff,Nat.reduceLeDiff,↓reduceIte,AV.ofV,unV,← decide_not,zl7,zl8,zl9,zm0,zm1,zm2,zm3,zm4,zm5,zm6,zm7,zm8,zm9,zn0,zn1,zn2,zn3,zn4,zn5,zn6,zn7,reduceCtorEq,rowsOf,pureCells,AV.weak,AV.pureB,AV.pureBs,zn8,zn9,zo0,zo1,zo2,Nat.reduceBEq,zo3,zo4,zo5,zo6,zo7,zo8,zo9,zp0,zp1,boundOf,Option.map_none,slcTok,Int.cast_ofNat_Int,Int.toNat_zero,zr0,Int.toNat_sub,Nat.sub_zero,Int.sub_zero,Nat.zero_mul,hne]
  refine ⟨⟨by omega, by omega, by omega, by omega, rfl⟩, fun h => h.elim, fun _ => ⟨⟨by omega, by omega, by omega⟩, ⟨by omega, by omega, by omega⟩, ?_⟩⟩
  simp -implicitDefEqProofs only [wApp,St.src,limTo,St.kill,hv,hkc,boundOf,Option.map_none,slcTok,Int.cast_ofNat_Int,Int.toNat_zero,zr0,Int.toNat_sub,Nat.sub_zero,Int.sub_zero,Nat.zero_mul,za0,za1,za2,za3,za4,eff,AV.ptrOf,AV.tokOf,za5,za6,AV.weaks,AV.weak1,za7,za8,za9,zb0,zb1,zb2,zb3,zb4,zb5,zb6,zb7,zb8,zb9,zc0,zc1,zc2,zc3,zc4,zc5,zc6,zc7,zc8,zc9,zd0,zd1,zd2,zd3,zd4,zd5,zd6,zd7,zd8,zd9,ze0,ze1,ze2,ze3,ze4,ze5,ze6,ze7,ze8,ze9,zf0,zf1,zf2,zf3,zf4,zf5,zf6,zf7,zf8,zf9,zg0,zg1,zg2,zg3,zg4,zg5,zg6,zg7,zg8,zg9,zh0,zh1,zh2,zh3,zh4,zh5,zh6,zh7,zh8,zh9,zi0,zi1,zi2,zi3,zi4,zi5,zi6,wSnil,zi7,zi8,zi9,zj0,zj1,zj2,zj3,zj4,zj5,zj6,zj7,zj8,AV.flatB,AV.flatBs,zj9,zk0,zk1,zk2,zk3,zk4,zk5,zk6,act,AV.cells,AV.mk,AV.asSl,AV.asInt,AV.vslOf,wIdx,zk7,zk8,zk9,zl0,zl1,zl2,zl3,st0,env0,zl4,zl5,zl6,Nat.reduceAdd,Nat.reduceEqDiff,Nat.reduceLeDiff,↓reduceIte,AV.ofV,unV,← decide_not,zl7,zl8,zl9,zm0,zm1,zm2,zm3,zm4,zm5,zm6,zm7,zm8,zm9,zn0,zn1,zn2,zn3,zn4,zn5,zn6,zn7,reduceCtorEq,rowsOf,pureCells,AV.weak,AV.pureB,AV.pureBs,zn8,zn9,zo0,zo1,zo2,Nat.reduceBEq,zo3,zo4,zo5,zo6,zo7,zo8,zo9,zp0,zp1]
  rw [if_pos (by omega)]
  simp only [hkc]
  refine ⟨⟨by omega, by omega⟩, rfl, ⟨by omega, by omega, by simp; omega⟩, ?_⟩
  refine ⟨rfl, _, fun c _ => clr7_step V (d := k + 26) (g := g0 (k + 26) + 1) (off := (i + (l.length - j)) * 7) (n := l.length - (i + (l.length - j))) (cp := some (cc - (i + (l.length - j)))) (by simp [upd]) (by simp [upd]) (by omega), ?_⟩
  rintro _ s ⟨rfl, Z, hZ, rfl⟩
  simp -implicitDefEqProofs only [c_slices_Delete,hv,za0,za1,za2,za3,za4,eff,AV.ptrOf,AV.tokOf,za5,za6,AV.weaks,AV.weak1,za7,za8,za9,zb0,zb1,zb2,zb3,zb4,zb5,zb6,zb7,zb8,zb9,zc0,zc1,zc2,zc3,zc4,zc5,zc6,zc7,zc8,zc9,zd0,zd1,zd2,zd3,zd4,zd5,zd6,zd7,zd8,zd9,ze0,ze1,ze2,ze3,ze4,ze5,ze6,ze7,ze8,ze9,zf0,zf1,zf2,zf3,zf4,zf5,zf6,zf7,zf8,zf9,zg0,zg1,zg2,zg3,zg4,zg5,zg6,zg7,zg8,zg9,zh0,zh1,zh2,zh3,zh4,zh5,zh6,zh7,zh8,zh9,zi0,zi1,zi2,zi3,zi4,zi5,zi6,wSnil,zi7,zi8,zi9,zj0,zj1,zj2,zj3,zj4,zj5,zj6,zj7,zj8,AV.flatB,AV.flatBs,zj9,zk0,zk1,zk2,zk3,zk4,zk5,zk6,act,AV.cells,AV.mk,AV.asSl,AV.asInt,AV.vslOf,wIdx,zk7,zk8,zk9,zl0,zl1,zl2,zl3,st0,env0,zl4,zl5,zl6,Nat.reduceAdd,Nat.reduceEqDiff,Nat.reduceLeDiff,↓reduceIte,AV.ofV,unV,← decide_not,zl7,zl8,zl9,zm0,zm1,zm2,zm3,zm4,zm5,zm6,zm7,zm8,zm9,zn0,zn1,zn2,zn3,zn4,zn5,zn6,zn7,reduceCtorEq,rowsOf,pureCells,AV.weak,AV.pureB,AV.pureBs,zn8,zn9,zo0,zo1,zo2,Nat.reduceBEq,zo3,zo4,zo5,zo6,zo7,zo8,zo9,zp0,zp1,zp2,zp3,zp4,zp5,zp6,zp7,zp8,zp9,zq0,zq1]
  refine ⟨some cc, Z, rfl, ?_, rfl, fun q hq => ?_⟩
  · rw [cut_fl (by omega) hj]
    have h1 : (fl (l.take i ++ l.drop j)).length = (i + (l.length - j)) * 7 := by rw [fl_len]; simp; omega
    generalize fl (l.take i ++ l.drop j) = B at *
    unfold padTo splice
    rw [List.take_append_of_le_length (by omega), List.take_of_length_le (by omega), List.drop_of_length_le (i := (i + (l.length - j)) * 7 + Z.length) (by rw [List.length_append, List.length_replicate]; omega), List.append_nil]
  · simp only [upd_eq, if_neg (show q ≠ k + 26 by omega), if_neg (show q ≠ k + 90 by omega), and_self]
end Go.Av
