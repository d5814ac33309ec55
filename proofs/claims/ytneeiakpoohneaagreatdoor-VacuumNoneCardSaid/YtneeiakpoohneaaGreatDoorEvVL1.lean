/- The walk of the law VacuumNone: in every world that holds the table, the call returns true and keeps what was there. -/
import Derived.Test.YtneeiakpoohneaaGreatDoorCards
import Derived.Test.YtneeiakpoohneaaGreatDoorTie
import Derived.Test.YtneeiakpoohneaaGreatDoorEvVR
set_option linter.all false
namespace Go.Proofs.YtneeiakpoohneaaGreatDoor.vacuumNone
open Go.ChangeShapes Go.WideShapes Go.ChangeAt Go.RowKit

abbrev zs : List Int := Ev.V.tab
theorem own : ownKnob Tryz.prog.godebug = none := by kernel_rfl
theorem gTab : Tryz.prog.globalNamed "hachure/sum.table" = some 0 := by kernel_rfl
theorem gTabType : (Tryz.prog.globals[0]?).map (·.type) = some 486 := by kernel_rfl
theorem gSize : Tryz.prog.globals.size = 1 := by kernel_rfl
theorem elemU : Tryz.prog.underlying 352 = some (.int .u32) := by kernel_rfl
theorem arrU : Tryz.prog.underlying 486 = some (.array 16 352) := by kernel_rfl
theorem cellsA : Tryz.prog.cellsOf 486 = 16 := by kernel_rfl
theorem cellsE : Tryz.prog.cellsOf 352 = 1 := by kernel_rfl
theorem row0 : (((begin Tryz.prog (fun _ _ => 0) default).world.heap[0]?).bind Obj.row?).isSome = true := by kernel_rfl
theorem table {W : World} (h : laidMetH Tryz.prog Rows.vacuumNoneRow.laid W) (hS : W.ShapedOpen Tryz.prog) : ∃ t, W.heap[0]? = some (.cells (zs.map fun z => Value.int .u32 z).toArray t) := by
  have ht : Lib.TabIs Tryz.prog W "hachure/sum.table" .u32 zs := Lib.tabIs_of_head (rest := []) gTab gTabType arrU elemU cellsE cellsA h
  obtain ⟨zt, hz⟩ := Option.isSome_iff_exists.1 row0
  obtain ⟨cs, h1, _, _⟩ := hS.1 0 zt.1 zt.2 (by rw [gSize]; exact Nat.lt_succ_self 0) hz
  unfold Lib.TabIs World.var? at ht
  rw [gTab] at ht
  simp only [Option.bind_some, h1, Option.some.injEq] at ht
  exact ⟨zt.2, by rw [h1, ht]⟩


set_option maxRecDepth 100000 in
theorem contract (H : Type) (enc : TypeId × Value → H) (W : World) (base : Nat) (args : Array Value) (ds gs : List (DataW H)) (before : List MemPlace)
    (hval : ∀ (j : Nat) t v, Tryz.f4.params[j]? = some t → args[j]? = some v → Value.okWide Tryz.prog W .any base t v)
    (hW : DataW.Whole enc Tryz.prog Tryz.f4.params.toList Rows.vacuumNoneSpec.vars false W args.toList ds gs before) (hL : laidMetH Tryz.prog Rows.vacuumNoneRow.laid W) (hS : W.ShapedOpen Tryz.prog) :
    Calls Tryz.prog 4 args W fun e W' => ∃ v, e = .returned v ∧ Rows.vacuumNoneSpec.post enc Tryz.prog Tryz.f4 false true false false W args v W' := by
  have hW' := hW
  obtain ⟨p, q, hA0, hV, rfl, hfz, hnd⟩ := hW
  have hA : DataW.TrodAll enc Tryz.prog W 0 (fun _ => true) true Tryz.f4.params.toList args.toList ds p := hA0
  rw [Tryz.params4] at hA hval
  obtain ⟨v0, vs0, d0, ds0, p0, q0, hargs, rfl, rfl, h0, r0⟩ := trodAll_cons hA
  obtain ⟨rfl, rfl, rfl⟩ := trodAll_nil r0
  obtain rfl : args = #[v0] := by cases args; simp_all
  obtain ⟨rfl, rfl⟩ := trodVars_none hV
  have hv0 : Value.okWide Tryz.prog W .any base 3 v0 := hval 0 3 v0 rfl rfl
  obtain ⟨n, rfl, rfl, rfl, hwn⟩ := open_int Tryz.underlying3 hv0 h0
  clear hA0
  simp only [List.append_nil] at hW'
  obtain ⟨t, hheap⟩ := table hL hS
  have walk := Ev.law_calls (t := 486) (avs := [.undef]) (vals := #[.int .i64 n]) gSize hheap (Ev.V.sound Ev.V.fuel) rfl Tryz.call4 Ev.V.run (by simp [Ev.LR, Ev.VR])
  refine walk.mono fun e W' ⟨he, ho⟩ => ?_
  subst he
  exact ⟨_, rfl, Ev.post_of_old (pa := []) (pv := []) hW' (fun _ _ _ => trodAll_cons_mk (shut_bool Tryz.underlying4 _) trodAll_mk0) (fun _ _ => trodAll_cons_mk (shut_int Tryz.underlying3 hwn) trodAll_mk0) (fun _ _ => rfl) rfl
    ho (ok_one (by kernel_rfl) rfl (okWide_bool_mk Tryz.underlying4 _))⟩

end Go.Proofs.YtneeiakpoohneaaGreatDoor.vacuumNone
