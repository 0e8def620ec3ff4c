/- A law's last step: it answered true, and left only new blocks. -/
import Derived.Test.YthhmbijblpjfpaaGreatOpen
namespace Go.Proofs.YthhmbijblpjfpaaGreat
open Go.RowKit Go.ChangeShapes Go.WideShapes

theorem law_post {H : Type} {enc : TypeId × Value → H} {P : Program} {f : Func} {s : ChangeSpec} {apart fresh handsOn again : Bool} {W W' : World} {args : Array Value} {ds gs : List (DataW H)} {before : List MemPlace} {tb : TypeId}
    (hl : laidOutB P = true) (hT : ∀ t ∈ f.params.toList, P.readableRec t = true ∧ t < P.types.size) (hv0 : s.vars = []) (hr : f.resultTypes = #[tb]) (htb : P.underlying tb = some .bool)
    (hW : DataW.Whole enc P f.params.toList s.vars apart W args.toList ds gs before) (hb : Ext W W')
    (hspec : gs = [] → s.fn H (ds ++ gs) = { results := [.lit (.bool true)], args := ds }) : s.post enc P f apart fresh handsOn again W args (.bool true) W' := by
  have hlt : ∀ p ∈ before, p.block < W.heap.size := fun p hp => hW.lt p hp
  have hW2 := hW
  obtain ⟨p, q, hA, hV, hpq, hfz, hnd⟩ := hW2
  rw [hv0] at hV
  obtain ⟨rfl, rfl⟩ := trodVars_none hV
  have hsp := hspec rfl
  rw [List.append_nil] at hpq
  subst hpq
  have hargs : ∀ sp : Nat → Bool, (∀ x ∈ before, sp x.block = true) → DataW.TrodAll enc P W' 0 sp true f.params.toList args.toList ds before :=
    fun sp hs => args_stay hl hb hT hA hlt hs
  have hres : ∀ (b : Nat) (sp : Nat → Bool) (hd : Bool), DataW.TrodAll enc P W' b sp hd f.resultTypes.toList ((Value.bool true).resultList f.resultTypes.size) [.lit (.bool true)] [] := by
    intro b sp hd
    rw [hr]
    exact trodAll_mk1 (shut_bool htb true)
  refine ⟨ds, [], before, [], before, [], hW, ?_, ?_, ?_, hb.frame _, fun _ => ⟨?_, [.lit (.bool true)] ++ ds, [], before, ⟨[] ++ before, [], ?_, ?_, ?_, ?_, ?_⟩, ?_⟩⟩
  · rw [hsp]; exact hres _ _ _
  · rw [hsp]; exact hargs _ (fun x hx => by simpa using hlt x hx)
  · rw [hsp, hv0]; rfl
  · intro j t r hj hv
    rw [hr] at hj hv
    match j, hj, hv with
    | 0, hj, hv =>
      simp [Value.resultList] at hj hv
      subst hj hv
      exact okWide_bool_mk htb true
    | j + 1, hj, hv => simp at hj
  · exact trodAll_append (hargs (fun _ => true) (fun _ _ => rfl)) (hres _ _ _)
  · rw [hv0]; rfl
  · simp
  · intro b off hp
    rw [hb.frozen (hlt _ hp)]
    exact hfz b off hp
  · intro ha
    exact hnd ha
  · intro x hx _
    exact hx
end Go.Proofs.YthhmbijblpjfpaaGreat
