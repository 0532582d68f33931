/- What maps.Clone does on the pages of a process. No condition. -/
import Derived.Test.YtomnglknogggaaaGreatWCharge
import Derived.Laws.Externs
import Derived.MapKept
import Derived.WalkKit
namespace Go.Priory
open Go.RowKit Go.Proofs
set_option maxRecDepth 100000

theorem run_clone152 {w : World} {r : Nat} {es : Array MapEntry} {clock : Nat} (hb : w.heap[r]? = some (.map es clock)) :
    (Extern.MapsClone.clone #[.iface 152 (.map (some r))]).run Tryz.prog w = .ok (.iface 152 (.map (some w.heap.size))) (w.alloc (.map es clock)) := by
  have e : Extern.MapsClone.clone #[.iface 152 (.map (some r))] = (getObj r >>= fun o => match o with
      | .map entries clock => (newObj (.map entries clock) >>= fun n => pure (.iface 152 (.map (some n))))
      | _ => stuck "maps.clone: a map expected") := rfl
  rw [e]
  simp [MapKept.run_getObj_map hb, Result.andThen, go_sem]
theorem assert152 (w : World) (v : Value) : (Instr.typeAssert (.iface 152 v) 20 152 false).run Tryz.prog w = .ok v w := by
  simp [Instr.typeAssert, run_underlying Tryz.underlying152, go_sem, Result.andThen]
set_option maxHeartbeats 2000000 in
theorem mapsClone_any {b : Nat} {kv : List (Int × Value)} (w : World) (h : MapIs w b kv) :
    Calls Tryz.prog 146 #[.map (some b)] w fun e w' => e = .returned (.map (some w.heap.size)) ∧ MapIs w' w.heap.size kv ∧ Fr Nil w w' ∧ w'.heap.size = w.heap.size + 1 := by
  obtain ⟨es, ck, hb, hst, hpm⟩ := h
  have hq := fun w => run_eql_map_nil (P := Tryz.prog) w 152 3 257 (some b) Tryz.underlying152
  go_enter Tryz.func146, Tryz.ntmps146
  go_wp2
  rw [run_callFunc_extern Tryz.func183 (by kernel_rfl) (by kernel_rfl) (by kernel_rfl) (e := Extern.MapsClone.clone) (by kernel_rfl), run_clone152 hb]
  simp only [Result.andThen]
  rw [Oper.upon_value]
  go_wp2
  rw [assert152]
  simp only [Result.andThen]
  rw [Oper.upon_value]
  go_wp2
  go_ret
  exact ⟨rfl, ⟨es, ck, World.alloc_heap_new w _, hst, hpm⟩, (Fr.refl _ _).alloc _, by simp⟩
end Go.Priory
