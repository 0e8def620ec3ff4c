/- factotumlaw10.awake answers true. -/
import Derived.Test.YthhmbijblpjfpaaGreatBehind
namespace Go.Proofs.YthhmbijblpjfpaaGreat
open Go.RowKit

theorem rows_of_blk {α : Type} [Inhabited α] {w : World} {T : TypeId} {g k : Nat} {l : List α} {enc : α → List Value} (hk : ∀ x, (enc x).length = k) (rest : List Value) (hb : Blk w g T (l.flatMap enc ++ rest)) :
    RowsAt w k (some ⟨g, 0, none⟩) (l.map enc) := by
  intro _
  refine ⟨_, rfl, fun i r hi => ?_⟩
  have hlt : i < l.length := by
    have := (List.getElem?_eq_some_iff.1 hi).1
    simpa using this
  have hr : r = enc (gt l i) := by
    rw [List.getElem?_map, List.getElem?_eq_getElem hlt] at hi
    injection hi with hi
    rw [gt_lt hlt]
    exact hi.symm
  subst hr
  refine ⟨hk _, ?_⟩
  rw [addLit, Nat.zero_add]
  exact hb.cellsAt (i * k) _ fun j u hu => flat_get enc k hk rest l i j u hlt hu

def awL : Lst := ⟨1, ⟨#[108]⟩⟩
def awT1 : Tsk := ⟨1, 1, ⟨#[97]⟩, false, 4607182418800017408, 0, [], none, 0⟩
def awT2 : Tsk := ⟨2, 1, ⟨#[98]⟩, false, 4611686018427387904, 0, [], none, 0⟩
def awS (g : Nat) : Sta := ⟨[awL], [awT1, awT2], some ⟨g, 0, none⟩, 1, some ⟨g + 1, 0, none⟩, 2⟩
theorem awS_ok {w : World} {g : Nat} (h1 : Blk w g 50 (Lst.row awL)) (h2 : Blk w (g + 1) 36 (Tsk.row awT1 ++ Tsk.row awT2)) : (awS g).ok w := by
  have h3 := rows_of_blk (w := w) (T := 50) (g := g) (k := 2) (l := [awL]) (enc := Lst.row) (fun _ => rfl) [] h1
  have h4 := rows_of_blk (w := w) (T := 36) (g := g + 1) (k := 7) (l := [awT1, awT2]) (enc := Tsk.row) (fun _ => rfl) [] h2
  refine ⟨⟨by simp [awS], h3⟩, ⟨by simp [awS], h4, ?_⟩⟩
  intro t ht
  have ht' : t = awT1 ∨ t = awT2 := by simpa [awS] using ht
  rcases ht' with rfl | rfl
  · exact ⟨by simp [awT1], RowsAt.nil _ _ _, by simp [awT1], by simp [awT1]⟩
  · exact ⟨by simp [awT2], RowsAt.nil _ _ _, by simp [awT2], by simp [awT2]⟩
theorem aw_key1 : fKey 4607182418800017408 = 13830554455654793216 := by rw [fKey_pos _ (by omega)]; rfl
theorem aw_key2 : fKey 4611686018427387904 = 13835058055282163712 := by rw [fKey_pos _ (by omega)]; rfl
theorem aw_mid : fMid 4607182418800017408 4611686018427387904 = (4609434218613702656, true) := by
  have n1 : fNan 4607182418800017408 = false := fNan_false _ (by omega)
  have n2 : fNan 4611686018427387904 = false := fNan_false _ (by omega)
  have p1 : fPlace 4607182418800017408 = 13830554455654793215 := by rw [fPlace_eq, aw_key1, if_pos (by decide), IntKind.wrap_u64]; rfl
  have p2 : fPlace 4611686018427387904 = 13835058055282163711 := by rw [fPlace_eq, aw_key2, if_pos (by decide), IntKind.wrap_u64]; rfl
  have st : fSteps 4607182418800017408 4611686018427387904 = 4503599627370495 := by
    rw [fSteps_eq, aw_key1, aw_key2, n1, p1, p2]
    decide +kernel
  have h := fMid_eq 4607182418800017408 4611686018427387904
  rw [n1, n2, if_neg (by decide), if_neg (by decide), st, if_neg (by decide), p1] at h
  rw [h]
  have e : IntKind.u64.wrap (IntKind.u64.wrap (13830554455654793215 + 1) + IntKind.u64.wrap ((4503599627370495 : Int).tdiv 2)) = 13832806255468478463 := by decide +kernel
  rw [e, fAt_eq, if_pos (by decide), show IntKind.u64.wrap (13832806255468478463 + 1) = ((13832806255468478464 : Nat) : Int) by decide +kernel]
  obtain ⟨y, h1, _, h3, h4⟩ := fOf_ok ((13832806255468478464 : Nat) : Int) (by unfold KeyOk; omega)
  have hb : fBack ((13832806255468478464 : Nat) : Int) = ((13832806255468478464 % 9223372036854775808 : Nat) : Int) := by
    rw [fBack_eq, if_pos (by omega), andNot_top _ (by omega)]
  have ho : fOfBits (fBack ((13832806255468478464 : Nat) : Int)) = 4609434218613702656 := by
    rw [hb, fOfBits_eq, Int.toNat_natCast]
  have hn : fNan 4609434218613702656 = false := fNan_false _ (by omega)
  rw [fOf_eq, if_neg (by rw [beq_iff_eq]; omega), ho, hn, if_neg (by decide), if_neg (by rw [hb, beq_iff_eq]; omega)]
theorem aw_order (l : List Tsk) (hp : (l.map Tsk.core).Perm ([awT1, awT2].map Tsk.core)) (hs : Sd (ltc ordCf) l 0 l.length) :
    ∃ a b, l = [a, b] ∧ a.id = 1 ∧ b.id = 2 ∧ a.rank = 4607182418800017408 ∧ b.rank = 4611686018427387904 := by
  have h1 : l.map Tsk.core = [awT1, awT2] := by
    refine List.Perm.eq_of_pairwise (le := fun x y => le2 (pos x) (pos y)) ?_ ?_ ?_ hp
    · intro a b ha hb hab hba
      have ha' : a = awT1 ∨ a = awT2 := by simpa [awT1, awT2, Tsk.core] using hp.mem_iff.1 ha
      have hb' : b = awT1 ∨ b = awT2 := by simpa using hb
      have k1 : pos awT1 = (13830554455654793216, 1) := by unfold pos; rw [← aw_key1]; rfl
      have k2 : pos awT2 = (13835058055282163712, 2) := by unfold pos; rw [← aw_key2]; rfl
      rcases ha' with rfl | rfl <;> rcases hb' with rfl | rfl
      · rfl
      · rw [k1, k2] at hba; unfold le2 at hba; omega
      · rw [k1, k2] at hab; unfold le2 at hab; omega
      · rfl
    · have := sd_pos hs
      rw [List.pairwise_map] at this ⊢
      exact this
    · have k1 : pos awT1 = (13830554455654793216, 1) := by unfold pos; rw [← aw_key1]; rfl
      have k2 : pos awT2 = (13835058055282163712, 2) := by unfold pos; rw [← aw_key2]; rfl
      rw [List.pairwise_cons]
      refine ⟨fun b hb => ?_, by simp⟩
      have hb' : b = awT2 := by simpa using hb
      subst hb'
      rw [k1, k2]
      exact .inl (by decide)
  have hlen := congrArg List.length h1
  rw [List.length_map] at hlen
  obtain ⟨a, b, rfl⟩ : ∃ a b, l = [a, b] := by
    rcases l with _ | ⟨a, _ | ⟨b, _ | ⟨c, l⟩⟩⟩
    · simp at hlen
    · simp at hlen
    · exact ⟨a, b, rfl⟩
    · simp at hlen
  · simp only [List.map_cons, List.map_nil, List.cons.injEq, and_true] at h1
    have e1 := h1.1
    have e2 := h1.2
    refine ⟨a, b, rfl, ?_, ?_, ?_, ?_⟩
    · have := congrArg Tsk.id e1; exact this
    · have := congrArg Tsk.id e2; exact this
    · have := congrArg Tsk.rank e1; exact this
    · have := congrArg Tsk.rank e2; exact this
theorem aw_at (a b : Tsk) (h1 : a.id = 1) (h2 : b.id = 2) : ordAt [a, b] true 2 = 1 := by
  rw [ordAt_eq, if_pos rfl, placeOf_eq]
  simp [firstAt, h1, h2]
theorem aw_btw (a b : Tsk) (h1 : a.id = 1) (h2 : b.id = 2) (h3 : a.rank = 4607182418800017408) (h4 : b.rank = 4611686018427387904) : btw true [a, b] 1 = (4609434218613702656, 0) := by
  have hp : placeOf [a, b] 1 = 0 := by rw [placeOf_eq]; simp [firstAt, h1]
  have hl : loAt [a, b] 0 = 4607182418800017408 := by unfold loAt; rw [if_pos (by decide)]; exact h3
  have hh : hiAt [a, b] 0 = 4611686018427387904 := by unfold hiAt; rw [if_pos (by simp)]; exact h4
  rw [btw_eq, if_neg (by decide), if_neg (by rw [hp]; decide), if_neg (by simp), if_neg (by decide), hp, hl, hh, aw_mid]
  rfl

set_option maxRecDepth 100000 in
theorem awake_any (w : World) : Calls Tryz.prog 15 #[] w fun e w' => e = .returned (.bool true) ∧ Ext w w' := by
  have hl1 : hasLst [awL] 1 = true := by rw [hasLst_eq]; decide
  have ht2 : hasTsk [awT1, awT2] 2 = true := by rw [hasTsk_eq]; decide
  have hf2 : findTsk [awT1, awT2] 2 = awT2 := by rw [findTsk_eq]; rfl
  have ho1 : (FloatKind.f64.format.order 4609434218613702656 4607182418800017408 == some Ordering.gt) = true := by decide +kernel
  have ho2 : (FloatKind.f64.format.order 4609434218613702656 4611686018427387904 == some Ordering.lt) = true := by decide +kernel
  have HB := Lib.hid (between_any (awS w.heap.size) 1 1)
  have HA := Lib.hid (at_any' (awS w.heap.size) 2)
  have hs : ∀ W, Ext (((w.alloc (Obj.cells (Lst.row awL).toArray 50)).alloc (Obj.cells (Tsk.row awT1 ++ Tsk.row awT2).toArray 36)).alloc (Obj.cells #[Value.slice (some ⟨w.heap.size, 0, none⟩) 1 1, Value.slice (some ⟨w.heap.size + 1, 0, none⟩) 2 2] 25)) W → (awS w.heap.size).ok W := by
    intro W hW
    have b1 := (((Blk.new w 50 (Lst.row awL)).al (Obj.cells (Tsk.row awT1 ++ Tsk.row awT2).toArray 36)).al (Obj.cells #[Value.slice (some ⟨w.heap.size, 0, none⟩) 1 1, Value.slice (some ⟨w.heap.size + 1, 0, none⟩) 2 2] 25)).ext hW
    have b2 := ((Blk.new1 w (Obj.cells (Lst.row awL).toArray 50) 36 (Tsk.row awT1 ++ Tsk.row awT2)).al (Obj.cells #[Value.slice (some ⟨w.heap.size, 0, none⟩) 1 1, Value.slice (some ⟨w.heap.size + 1, 0, none⟩) 2 2] 25)).ext hW
    exact awS_ok b1 b2
  have HS := Lib.hid hs
  clear hs
  go_enter Tryz.func15, Tryz.ntmps15
  go_wp2_with (first
    | (go_at_call 20; refine (HB.out _ (HS.out _ Ext.rfl') (by simp [awS]) (by simp [awS, awT1, awT2])).mono ?_; rintro e w1 ⟨l, rfl, hb1, hl⟩; obtain ⟨hp, hsd⟩ := hl hl1; obtain ⟨a, b, rfl, i1, i2, i3, i4⟩ := aw_order l hp hsd; rw [show hasLst (awS w.heap.size).lists 1 = true from hl1, aw_btw a b i1 i2 i3 i4]; obtain ⟨hrc1, hrf1⟩ := Ext.rules hb1; have hz1 : w.heap.size + 1 + 1 < w1.heap.size := (Nat.lt_of_lt_of_le (by simp) hb1.size); clear hp hsd hl i1 i2 i3 i4)
    | (go_at_call 54; refine (HA.out _ (HS.out _ hb1) (by simp [awS]) (by simp [awS, awT1, awT2])).mono ?_; rintro e w2 ⟨l, rfl, hb2, hl⟩; obtain ⟨hp, hsd⟩ := hl ht2; obtain ⟨a', b', rfl, i1, i2, i3, i4⟩ := aw_order l (by rw [show findTsk (awS w.heap.size).tasks 2 = awT2 from hf2] at hp; exact hp) hsd; rw [show hasTsk (awS w.heap.size).tasks 2 = true from ht2, aw_at a' b' i1 i2]; clear hp hsd hl i1 i2 i3 i4))
  go_ret
  refine ⟨?_, ((((Ext.rfl'.al _).al _).al _).tr hb1).tr hb2⟩
  rfl
end Go.Proofs.YthhmbijblpjfpaaGreat
