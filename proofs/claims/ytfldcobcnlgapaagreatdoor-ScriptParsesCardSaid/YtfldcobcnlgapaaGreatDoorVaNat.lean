/-
  Functions that the machine carries out itself, over the plain view.
-/
import Derived.Test.YtfldcobcnlgapaaGreatDoorVaFn
import Derived.Laws.Externs
import Derived.Lib.Bytealg
set_option linter.unusedVariables false
set_option linter.unusedSimpArgs false
namespace Go.Va
def nat_count : AFn := fun args H K => match args with
  | [.str s, .int .u8 c] => K (.int .i64 (s.count c.toNat.toUInt8)) H
  | _ => False
def nat_indexByte : AFn := fun args H K => match args with
  | [.str s, .int .u8 c] => K (.int .i64 (Lib.indexByte s c.toNat.toUInt8)) H
  | _ => False
def nat_compare : AFn := fun args H K => match args with
  | [.str s, .str t] => K (.int .i64 (Lib.compareBytes s t)) H
  | _ => False
section
variable {w0 : World} {P : Program} {f : FuncId} {fn : Func}
theorem nat_count_ok (hf : P.funcs[f]? = some fn) (hname : (fn.name == "runtime.NumGoroutine") = false) (hb : fn.body.isNone = true) (hn : (Extern.findNext fn).isNone = true) (he : Extern.find fn = some Extern.BytealgCount.count) : NatOk w0 P f nat_count := by
  refine ⟨fun args H K h G w vs hr hs hv => ?_⟩
  unfold nat_count at h
  split at h
  case h_2 => exact h.elim
  rename_i s c
  obtain ⟨v, u, rfl, hx, hy⟩ := vs2 hs hv
  cases hx; cases hy
  rw [run_callFunc_extern hf hname hb (Option.isNone_iff_eq_none.1 hn) he, Lib.run_countString]
  exact Post.same hr (.int _ _) (by simpa [Lib.countByte] using h)
theorem nat_indexByte_ok (hf : P.funcs[f]? = some fn) (hname : (fn.name == "runtime.NumGoroutine") = false) (hb : fn.body.isNone = true) (hn : (Extern.findNext fn).isNone = true) (he : Extern.find fn = some Extern.BytealgIndexByte.indexByte) : NatOk w0 P f nat_indexByte := by
  refine ⟨fun args H K h G w vs hr hs hv => ?_⟩
  unfold nat_indexByte at h
  split at h
  case h_2 => exact h.elim
  rename_i s c
  obtain ⟨v, u, rfl, hx, hy⟩ := vs2 hs hv
  cases hx; cases hy
  rw [run_callFunc_extern hf hname hb (Option.isNone_iff_eq_none.1 hn) he, Lib.run_indexByteString]
  exact Post.same hr (.int _ _) (by simpa using h)
end
end Go.Va
