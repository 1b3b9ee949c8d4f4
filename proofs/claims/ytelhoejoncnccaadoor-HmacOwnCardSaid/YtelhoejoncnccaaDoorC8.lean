/- The rows: what the listed table gives, what stays, the lift that serves every law. -/
import Derived.Test.YtelhoejoncnccaaDoorC7
import Derived.Test.YtelhoejoncnccaaDoorTie
import Derived.ProofKit
import Derived.LaidMore
import Derived.Stop.Joined
import Derived.OpenShut
import Derived.SevenTiedAt
namespace Go.Proofs.YtelhoejoncnccaaDoor
open Go Go.ChangeShapes Go.WideShapes Go.ChangeAt Go.RowKit
theorem Tryd.own : ownKnob Tryd.prog.godebug = none := by kernel_rfl
theorem Tryd.laidOut : laidOutB Tryd.prog = true := by kernel_rfl
abbrev laidK : List (String × DataW Unit) := [("cofferdam/sha.constants", Rows.laid_cofferdam_sha_constants)]
theorem gK : Tryd.prog.globalNamed "cofferdam/sha.constants" = some 0 := by kernel_rfl
theorem tK : (Tryd.prog.globals[0]?).map (·.type) = some 80 := by kernel_rfl
theorem cells80 : Tryd.prog.cellsOf 80 = 64 := by kernel_rfl
theorem cells77 : Tryd.prog.cellsOf 77 = 1 := by kernel_rfl
theorem laid_is {H : Type} : (Rows.laid_cofferdam_sha_constants : DataW H) = .agg (kC.map fun x => .lit (.int .u32 (uI x))) := by
  kernel_rfl
theorem door_met (os : Os) (args : Array Value) : laidMetH Tryd.prog laidK ((World.doorLaid Tryd.prog 200 os).forCall (fun _ _ => 0) ⟨#[], args, []⟩).memory :=
  laidMetH_of_parts3 (fuel := 8) (laidMet_of_run' 8 (by kernel_rfl) (by kernel_rfl)) (by kernel_rfl) (by kernel_rfl)
theorem gk_of_laid {W : World} (h : laidMetH Tryd.prog laidK W) : GK W := by
  rw [MakeChecks.laidMetH_plain _ _ _ (by kernel_rfl)] at h
  obtain ⟨ps, ⟨g, t, cs, fuel, p, q, hg, ht, hvar, hd, _, _⟩, _⟩ := h
  obtain rfl := Option.some.inj (gK.symm.trans hg)
  obtain rfl := Option.some.inj (tK.symm.trans ht)
  obtain ⟨xs, m, _, hx, hl, hxl, hel⟩ := DataW.trod_array Tryd.underlying80 hd
  rw [cells80] at hl
  rw [cells77] at hel
  have hx1 : xs.map (·.1) = kC.map fun x => DataW.lit (.int .u32 (uI x)) := by
    have := congrArg Prod.fst hx
    rw [laid_is] at this
    simpa using this.symm
  have hcs : cs.toList = kC.map uV := by
    apply List.ext_getElem?
    intro i
    rcases Nat.lt_or_ge i 64 with hi | hi
    · obtain ⟨c, hc⟩ : ∃ c, cs.toList[i]? = some c := ⟨_, List.getElem?_eq_getElem (by omega)⟩
      have h1 := hel i hi
      rw [Nat.mul_one, List.take_one, List.head?_drop, hc] at h1
      obtain ⟨x, hxi⟩ : ∃ x, xs[i]? = some x := ⟨_, List.getElem?_eq_getElem (by omega)⟩
      rw [hxi] at h1
      obtain ⟨n, h2, h3, _⟩ := DataW.trod_int Tryd.underlying77 h1
      have h4 : (xs.map (·.1))[i]? = (kC.map fun x => DataW.lit (.int .u32 (uI x)))[i]? := by rw [hx1]
      rw [List.getElem?_map, hxi, List.getElem?_map, List.getElem?_eq_getElem (show i < kC.length from hi)] at h4
      rw [hc, List.getElem?_map, List.getElem?_eq_getElem (show i < kC.length from hi)]
      simp at h2 h4
      rw [h3] at h4
      simp at h4
      rw [h2, h4]
      rfl
    · rw [List.getElem?_eq_none (by omega), List.getElem?_eq_none (by rw [List.length_map]; exact hi)]
  unfold World.var? at hvar
  rw [gK] at hvar
  simp only [Option.bind_some] at hvar
  split at hvar
  · rename_i cs' t fr hh
    cases hvar
    refine ⟨t, fr, ?_⟩
    rw [hh]
    rw [show cs = (kC.map uV).toArray by rw [← hcs]]
    rfl
  · cases hvar
/-- What a call leaves old reads as it did. -/
theorem args_stay {H : Type} {enc : TypeId × Value → H} {P : Program} (hl : laidOutB P = true) {W W' : World} (hb : Below W.heap.size W W') (ts : List TypeId) : ∀ (vs : List Value) (ds : List (DataW H)) (ps : List MemPlace),
    (ts.all fun t => P.readableRec t && decide (t < P.types.size)) = true → DataW.TrodAll enc P W 0 (fun _ => true) true ts vs ds ps → (∀ x ∈ ps, x.block < W.heap.size) →
    DataW.TrodAll enc P W' 0 (fun b => decide (b < W.heap.size)) true ts vs ds ps := by
  induction ts with
  | nil =>
    intro vs ds ps _ h _
    match vs, ds, h with
    | [], [], h => exact h
  | cons t ts ih =>
    intro vs ds ps hr h hlt
    match vs, ds, h with
    | v :: vs, d :: ds, h =>
      obtain ⟨p, q, h1, h2, rfl⟩ := h
      simp only [List.all_cons, Bool.and_eq_true, decide_eq_true_eq] at hr
      exact ⟨p, q, Below.trod hl hr.1.1 hr.1.2 h1 hb (fun x hx => hlt x (List.mem_append_left _ hx)), ih vs ds q hr.2 h2 (fun x hx => hlt x (List.mem_append_right _ hx)), rfl⟩

theorem trod_len {H : Type} {enc : TypeId × Value → H} {P : Program} {W : World} {b : Nat} {sp : Nat → Bool} {hd : Bool} (ts : List TypeId) : ∀ (vs : List Value) (ds : List (DataW H)) (ps : List MemPlace), DataW.TrodAll enc P W b sp hd ts vs ds ps → ds.length = ts.length := by
  induction ts with
  | nil =>
    intro vs ds ps h
    match vs, ds, h with
    | [], [], _ => rfl
  | cons t ts ih =>
    intro vs ds ps h
    match vs, ds, h with
    | v :: vs, d :: ds, h =>
      obtain ⟨p, q, _, h2, _⟩ := h
      rw [List.length_cons, List.length_cons, ih vs ds q h2]
set_option maxRecDepth 100000 in
theorem lifted_law (k : FuncId) (fn : Func) (s : ChangeSpec) (hfn : Tryd.prog.funcs[k]? = some fn) (hinit : Tryd.prog.inits.idxOf? k = none) (hres : fn.resultTypes.toList = [4]) (hv : s.vars = [])
    (hrd : (fn.params.toList.all fun t => Tryd.prog.readableRec t && decide (t < Tryd.prog.types.size)) = true)
    (hs : ∀ (H : Type) (ds : List (DataW H)), ds.length = fn.params.toList.length → s.fn H ds = { results := [.lit (.bool true)], args := ds })
    (os : Os) (started : os.Started) (H : Type) (enc : TypeId × Value → H)
    (hwit : ∃ (w : World) (tape : Tape) (i : Input), w.os = os ∧ (w.forCall tape i).Shaped Tryd.checked.prog ∧ i.vars = [] ∧ Input.okWide Tryd.checked.prog (w.forCall tape i) .any w.heap.size k i ∧
      ((s.pre enc Tryd.checked.prog fn [] false (w.forCall tape i).memory i.args ∧ laidMetH Tryd.prog laidK (w.forCall tape i).memory) ∧ sizedMet enc Tryd.checked.prog fn (OpenSpec.ofChange s) false (w.forCall tape i).memory i.args) ∧ ({} : Assume).holds Tryd.checked.prog (lone (Frame.enter Tryd.checked.prog k i.args .normal) [] (w.forCall tape i)))
    (walk : ∀ (W : World) (base : Nat) (args : Array Value) (ds : List (DataW H)) (ps : List MemPlace), GK W → (∀ (j : Nat) t v, fn.params[j]? = some t → args[j]? = some v → Value.okWide Tryd.prog W .any base t v) →
      DataW.TrodAll enc Tryd.prog W 0 (fun _ => true) true fn.params.toList args.toList ds ps → (DataW.weightsEach Tryd.prog fn.params.toList ds).all (· ≤ reachBytes) = true →
      Calls Tryd.prog k args W fun e W' => e = .returned (.bool true) ∧ Fr none_ W W') :
    ReturnsInHanded {} Tryd.checked os k .any (fun w args => (s.pre enc Tryd.prog fn [] false w args ∧ laidMetH Tryd.prog laidK w) ∧ sizedMet enc Tryd.prog fn (OpenSpec.ofChange s) false w args)
      (s.post enc Tryd.prog fn false true false false) := by
  refine returnsInHanded_of_change_and (C := Tryd.checked) (X := fun w _ => laidMetH Tryd.prog laidK w) (fun _ _ _ hh h => h.of_heap hh) Tryd.own started hinit hfn hwit ?_
  intro W base args ds gs before hval hW _ hsz hL _
  have hW' := hW
  obtain ⟨p, q, hA0, hV, rfl, hfz, hnd⟩ := hW
  have hA : DataW.TrodAll enc Tryd.prog W 0 (fun _ => true) true fn.params.toList args.toList ds p := hA0
  rw [hv] at hV
  obtain ⟨rfl, rfl⟩ := trodVars_none hV
  have hsz' : (DataW.weightsEach Tryd.prog fn.params.toList ds).all (· ≤ reachBytes) = true := by
    have e : s.plain.varTypes Tryd.checked.prog = [] := by
      unfold DataSpec.varTypes
      show List.filterMap _ s.vars = []
      rw [hv]; rfl
    rw [e, List.append_nil, List.append_nil] at hsz
    exact hsz
  have hlen := trod_len _ _ _ _ hA
  refine (walk W base args ds p (gk_of_laid hL) hval hA hsz').mono fun e W' ⟨he, hf⟩ => ?_
  have hb := hf.below (Nat.le_refl _) (fun k _ => id)
  refine ⟨_, he, ds, [], p ++ [], [], p, [], hW', ?_, ?_, ?_, ?_, fun h => by cases h⟩
  · have h1 : fn.resultTypes.size = 1 := by have := congrArg List.length hres; simpa using this
    rw [List.append_nil, hs H ds hlen, hres, h1]
    exact trodAll_mk1 (shut_bool Tryd.underlying4 true)
  · rw [List.append_nil, hs H ds hlen]
    exact args_stay Tryd.laidOut hb _ _ _ _ hrd hA (fun x hx => hW'.lt x (by simpa using hx))
  · rw [List.append_nil, hs H ds hlen, hv]
    rfl
  · exact hb.frame _
end Go.Proofs.YtelhoejoncnccaaDoor
