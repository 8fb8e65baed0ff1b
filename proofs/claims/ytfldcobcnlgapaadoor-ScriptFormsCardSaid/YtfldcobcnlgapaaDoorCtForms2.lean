/-
  Contracts: the statement on forms of lines.
-/
import Derived.Test.YtfldcobcnlgapaaDoorCtForms
set_option linter.unusedVariables false
set_option linter.unusedSimpArgs false
set_option maxRecDepth 100000
namespace Go.Va
/-- lines that are steps, and these -/
def goods (n c m : Nat) : List (Bs × Step) := [
  ([114, 117, 110, 32, 102, 32, 120, 32, 97, 32] ++ [dig c] ++ [32] ++ [dig m] ++ [32, 32, 98, 50, 32, 49, 50, 32, 48, 32], { kind := 1, msg := { kind := 1, f := [102], e := [120], items := [⟨[97], c, m⟩, ⟨[98, 50], 12, 0⟩] } }),
  ([115, 104, 117, 116, 32, 102], { kind := 1, msg := { kind := 3, f := [102] } }),
  ([97, 99, 107, 32, 102, 32, 97, 32] ++ [dig n] ++ [32, 55], { kind := 1, msg := { kind := 4, f := [102], t := [97], num := n, epoch := 7 } }),
  ([97, 115, 107, 32, 102], { kind := 1, msg := { kind := 5, f := [102] } }),
  ([97, 115, 107, 32, 102, 32, 97, 32, 98], { kind := 1, msg := { kind := 5, f := [102], items := [⟨[97], 0, 0⟩, ⟨[98], 0, 0⟩] } }),
  ([32, 119, 101, 108, 99, 111, 109, 101], { kind := 1, msg := { kind := 6 } }),
  ([104, 101, 108, 108, 111, 32, 102, 32, 120, 32] ++ [dig n], { kind := 1, msg := { kind := 7, f := [102], e := [120], n := n } }),
  ([114, 101, 112, 111, 114, 116, 32, 102, 32, 120, 32, 49, 32, 97, 32, 51], { kind := 1, msg := { kind := 8, f := [102], e := [120], n := 1, t := [97], state := 3 } }),
  ([103, 111, 110, 101, 32, 102, 32, 120, 32, 49], { kind := 1, msg := { kind := 9, f := [102], e := [120], n := 1 } }),
  ([116, 105, 99, 107, 32] ++ [dig n], { kind := 2, n := n }),
  ([102, 117, 115, 101, 32, 48], { kind := 3 }),
  ([99, 114, 97, 115, 104, 32] ++ [dig n], { kind := 4, n := n, m := -1 }),
  ([99, 114, 97, 115, 104, 32, 48, 32] ++ [dig n], { kind := 4, m := n })]
def bads : List Bs := [
  [114, 117, 110, 32, 102],
  [114, 117, 110, 32, 102, 32, 120],
  [114, 117, 110, 32, 102, 32, 120, 32, 97, 32, 49],
  [114, 117, 110, 32, 102, 32, 120, 32, 97, 32, 49, 32, 120],
  [114, 117, 110, 32, 70, 32, 120, 32, 97, 32, 49, 32, 49],
  [107, 105, 108, 108, 32, 102],
  [107, 105, 108, 108, 32, 102, 32, 97, 32, 98],
  [115, 104, 117, 116],
  [97, 99, 107, 32, 102, 32, 97, 32, 49],
  [97, 99, 107, 32, 102, 32, 97, 32, 48, 49, 32, 49],
  [97, 115, 107],
  [97, 115, 107, 32, 102, 32, 97, 32, 97],
  [97, 115, 107, 32, 102, 32, 97, 32, 98, 32, 99, 32, 100, 32, 101],
  [119, 101, 108, 99, 111, 109, 101, 32, 120],
  [104, 101, 108, 108, 111, 32, 102, 32, 120],
  [114, 101, 112, 111, 114, 116, 32, 102, 32, 120, 32, 49, 32, 97],
  [114, 101, 112, 111, 114, 116, 32, 102, 32, 120, 32, 49, 32, 97, 32, 48],
  [103, 111, 110, 101, 32, 102, 32, 120],
  [114, 101, 103, 105, 115, 116, 101, 114, 32, 49],
  [115, 116, 97, 114, 116, 32, 102, 32, 120, 32, 49],
  [116, 105, 99, 107],
  [116, 105, 99, 107, 32, 45, 49],
  [116, 105, 99, 107, 32, 49, 32, 50],
  [102, 117, 115, 101, 32, 120],
  [99, 114, 97, 115, 104],
  [99, 114, 97, 115, 104, 32, 49, 32, 50, 32, 51],
  [116, 105, 99, 107, 9, 49],
  [116, 105, 99, 107, 32, 49, 10, 120]]
theorem bads_none : ∀ t ∈ bads, parseS t = none := by decide +kernel
def goodsOk (n c m : Nat) : Bool := (goods n c m).all fun x => decide (parseS x.1 = some [x.2])
theorem goods_all : ∀ n, n < 9 → ∀ c, c < 10 → ∀ m, m < 9 → goodsOk (1 + n) c (1 + m) = true := by decide +kernel
theorem fl12 : fl 12 = 4622945017495814144 := by decide +kernel
theorem c_forms_1 (n : Nat) (h : n < 10) (H : AH) (K : AV → AH → Prop) (k : K (.str [dig n]) H) : acallv (tabL [(k_hostlerlaw21uScriptForms_1, r_hostlerlaw21uScriptForms_1)]) (.fn (.func k_hostlerlaw21uScriptForms_1) [] []) [.int .i64 n] H K := by
  simp only [acallv, tabL, k_hostlerlaw21uScriptForms_1, List.nil_append, List.append_nil, Nat.reduceBEq, cond_true, bnd_some, r_hostlerlaw21uScriptForms_1]
  exact c_dig n h (fun t => K t H) k
end Go.Va
