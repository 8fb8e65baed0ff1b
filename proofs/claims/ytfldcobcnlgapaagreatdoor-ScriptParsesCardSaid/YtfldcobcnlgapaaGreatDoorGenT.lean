/- What functions of the program ask, over the plain view. -/
import Derived.Test.YtfldcobcnlgapaaGreatDoorVaNat
import Derived.Test.YtfldcobcnlgapaaGreatDoorVaFrz
import Derived.Test.YtfldcobcnlgapaaGreatDoorProg
import Derived.KernelRfl
import Derived.Test.YtfldcobcnlgapaaGreatDoorGenS
set_option linter.unusedVariables false
set_option maxRecDepth 100000
noncomputable section
namespace Go.Va
abbrev k_hostlerref01uRight : Nat := 101
-- hostler/hostlerref01.Right
noncomputable abbrev F_hostlerref01uRight : Func := Go.Proofs.Tryz.f101
noncomputable def B_hostlerref01uRight : Code := (F_hostlerref01uRight.body).getD .skip
def C_hostlerref01uRight : Table := tableOf []
theorem C_hostlerref01uRight_ok {w0 : World} (hw : Base w0) : (C_hostlerref01uRight).Ok w0 PP := TableOk.ok (w0 := w0) (P := PP) (l := []) trivial
theorem B_hostlerref01uRight_ok : codeOk F_hostlerref01uRight.ntmps B_hostlerref01uRight = true := by kernel_rfl
def r_hostlerref01uRight_p52 (K : AV → AH → Prop) (Y52 : List AV → AH → Prop) (s : List AV) (H : AH) : Prop := match s with
| [t0, t3] =>
  bnd (lenStr t0) fun t6u1 =>
  bnd (abin PP .lss 3 t3 t6u1) fun t7u2 =>
  branch t7u2 (
  bnd (idxStr t0 t3) fun t12u3 =>
  bnd (abin PP .geq 5 t12u3 (.int .u8 97)) fun t13u4 =>
  aguard (gwant true t13u4) (fun k_7 =>
  k_7 t0 H) H fun t15u5 H_6 =>
  aguard (gwant true t13u4) (fun k_10 =>
  k_10 t3 H_6) H_6 fun t16u8 H_9 =>
  aguard (gwant true t13u4) (fun k_13 =>
  bnd (idxStr t15u5 t16u8) fun t17u14 =>
  k_13 t17u14 H_9) H_9 fun t17u11 H_12 =>
  aguard (gwant true t13u4) (fun k_17 =>
  bnd (abin PP .leq 5 t17u11 (.int .u8 122)) fun t18u18 =>
  k_17 t18u18 H_12) H_12 fun t18u15 H_16 =>
  bnd (pickV t13u4 t18u15 (.bool false)) fun t19u19 =>
  aguard (gwant false t19u19) (fun k_22 =>
  k_22 t0 H_16) H_16 fun t21u20 H_21 =>
  aguard (gwant false t19u19) (fun k_25 =>
  k_25 t3 H_21) H_21 fun t22u23 H_24 =>
  aguard (gwant false t19u19) (fun k_28 =>
  bnd (idxStr t21u20 t22u23) fun t23u29 =>
  k_28 t23u29 H_24) H_24 fun t23u26 H_27 =>
  aguard (gwant false t19u19) (fun k_32 =>
  bnd (abin PP .geq 5 t23u26 (.int .u8 48)) fun t24u33 =>
  k_32 t24u33 H_27) H_27 fun t24u30 H_31 =>
  aguard (gwant false t19u19) (fun k_36 =>
  k_36 t24u30 H_31) H_31 fun t25u34 H_35 =>
  aguard (gwant true t25u34) (fun k_39 =>
  k_39 t0 H_35) H_35 fun t26u37 H_38 =>
  aguard (gwant true t25u34) (fun k_42 =>
  k_42 t3 H_38) H_38 fun t27u40 H_41 =>
  aguard (gwant true t25u34) (fun k_45 =>
  bnd (idxStr t26u37 t27u40) fun t28u46 =>
  k_45 t28u46 H_41) H_41 fun t28u43 H_44 =>
  aguard (gwant true t25u34) (fun k_49 =>
  bnd (abin PP .leq 5 t28u43 (.int .u8 57)) fun t29u50 =>
  k_49 t29u50 H_44) H_44 fun t29u47 H_48 =>
  aguard (gwant false t19u19) (fun k_53 =>
  bnd (pickV t25u34 t29u47 (.bool false)) fun t30u54 =>
  k_53 t30u54 H_48) H_48 fun t30u51 H_52 =>
  bnd (pickV t19u19 (.bool true) t30u51) fun t31u55 =>
  bnd (aun .not t31u55) fun t32u56 =>
  branch t32u56 (
  K (.bool false) H_52) (
  bnd (abin PP .add 3 t3 (.int .i64 1)) fun t9u57 =>
  Y52 [t0, t9u57] H_52)) (
  bnd (lenStr t0) fun t34u58 =>
  bnd (abin PP .geq 3 t34u58 (.int .i64 1)) fun t35u59 =>
  aguard (gwant true t35u59) (fun k_62 =>
  k_62 t0 H) H fun t37u60 H_61 =>
  aguard (gwant true t35u59) (fun k_65 =>
  bnd (lenStr t37u60) fun t38u66 =>
  k_65 t38u66 H_61) H_61 fun t38u63 H_64 =>
  aguard (gwant true t35u59) (fun k_69 =>
  bnd (abin PP .leq 3 t38u63 (.int .i64 8)) fun t39u70 =>
  k_69 t39u70 H_64) H_64 fun t39u67 H_68 =>
  bnd (pickV t35u59 t39u67 (.bool false)) fun t40u71 =>
  K t40u71 H_68)
| _ => False
def r_hostlerref01uRight : AFn := fun args H K => match args with
| [t0] =>
  LoopP (r_hostlerref01uRight_p52 K) [t0, (.int .i64 0)] H
| _ => False
theorem s_hostlerref01uRight_p52 {w0 : World} (hw : Base w0) {K : AV → AH → Prop} : Pt w0 PP F_hostlerref01uRight F_hostlerref01uRight.ntmps B_hostlerref01uRight K 52 (fun ρ H => LoopP (r_hostlerref01uRight_p52 K) [ρ 0, ρ 3] H) :=
  Pt.loop (st := fun ρ => [ρ 0, ρ 3]) fun Y52 h52 => Pt.walk_eq (p := [false, false, true, false, true]) (ct := C_hostlerref01uRight) (tab := [(52, fun ρ H => Y52 [ρ 0, ρ 3] H)])
    (C_hostlerref01uRight_ok hw) PP_mixed B_hostlerref01uRight_ok ⟨h52, trivial⟩ (by kernel_rfl)
theorem r_hostlerref01uRight_ok {w0 : World} (hw : Base w0) : FnOk w0 PP 101 (r_hostlerref01uRight) := ⟨⟨F_hostlerref01uRight, by kernel_rfl, by kernel_rfl, by kernel_rfl⟩, sound_of_pt (fn := F_hostlerref01uRight) (body := B_hostlerref01uRight) (n := 1) (by kernel_rfl) (by kernel_rfl)
  (fun args H K h => by unfold r_hostlerref01uRight at h; split at h; rfl; exact h.elim) fun K => Pt.walk_eq (p := []) (ct := C_hostlerref01uRight) (tab := [(52, fun ρ H => LoopP (r_hostlerref01uRight_p52 K) [ρ 0, ρ 3] H)])
    (C_hostlerref01uRight_ok hw) PP_mixed B_hostlerref01uRight_ok ⟨s_hostlerref01uRight_p52 hw, trivial⟩ (by kernel_rfl)⟩

abbrev k_hostlerref01utext : Nat := 73
-- hostler/hostlerref01.text
noncomputable abbrev F_hostlerref01utext : Func := Go.Proofs.Tryz.f73
noncomputable def B_hostlerref01utext : Code := (F_hostlerref01utext.body).getD .skip
def C_hostlerref01utext : Table := tableOf [(101, r_hostlerref01uRight)]
theorem C_hostlerref01utext_ok {w0 : World} (hw : Base w0) : (C_hostlerref01utext).Ok w0 PP := TableOk.ok (w0 := w0) (P := PP) (l := [(101, r_hostlerref01uRight)]) ⟨(r_hostlerref01uRight_ok hw).call, trivial⟩
theorem B_hostlerref01utext_ok : codeOk F_hostlerref01utext.ntmps B_hostlerref01utext = true := by kernel_rfl
def r_hostlerref01utext : AFn := fun args H K => match args with
| [t0, t1] =>
  aguard (gwant true t1) (fun k_3 =>
  k_3 t0 H) H fun t7u1 H_2 =>
  aguard (gwant true t1) (fun k_6 =>
  r_hostlerref01uRight [t7u1] H_2 fun t8u7 H_8 =>
  k_6 t8u7 H_8) H_2 fun t8u4 H_5 =>
  bnd (pickV t1 t8u4 (.bool false)) fun t9u9 =>
  aguard (gwant false t9u9) (fun k_12 =>
  k_12 t1 H_5) H_5 fun t11u10 H_11 =>
  aguard (gwant false t9u9) (fun k_15 =>
  bnd (aun .not t11u10) fun t12u16 =>
  k_15 t12u16 H_11) H_11 fun t12u13 H_14 =>
  aguard (gwant false t9u9) (fun k_19 =>
  k_19 t12u13 H_14) H_14 fun t13u17 H_18 =>
  aguard (gwant true t13u17) (fun k_22 =>
  k_22 t0 H_18) H_18 fun t14u20 H_21 =>
  aguard (gwant true t13u17) (fun k_25 =>
  bnd (abin PP .eql 9 t14u20 (.str [])) fun t15u26 =>
  k_25 t15u26 H_21) H_21 fun t15u23 H_24 =>
  aguard (gwant false t9u9) (fun k_29 =>
  bnd (pickV t13u17 t15u23 (.bool false)) fun t16u30 =>
  k_29 t16u30 H_24) H_24 fun t16u27 H_28 =>
  bnd (pickV t9u9 (.bool true) t16u27) fun t17u31 =>
  K t17u31 H_28
| _ => False
theorem r_hostlerref01utext_ok {w0 : World} (hw : Base w0) : FnOk w0 PP 73 (r_hostlerref01utext) := ⟨⟨F_hostlerref01utext, by kernel_rfl, by kernel_rfl, by kernel_rfl⟩, sound_of_pt (fn := F_hostlerref01utext) (body := B_hostlerref01utext) (n := 2) (by kernel_rfl) (by kernel_rfl)
  (fun args H K h => by unfold r_hostlerref01utext at h; split at h; rfl; exact h.elim) fun K => Pt.walk_eq (p := []) (ct := C_hostlerref01utext) (tab := [])
    (C_hostlerref01utext_ok hw) PP_mixed B_hostlerref01utext_ok trivial (by kernel_rfl)⟩

abbrev k_hostlerref01uhas : Nat := 74
-- hostler/hostlerref01.has
noncomputable abbrev F_hostlerref01uhas : Func := Go.Proofs.Tryz.f74
noncomputable def B_hostlerref01uhas : Code := (F_hostlerref01uhas.body).getD .skip
def C_hostlerref01uhas : Table := tableOf []
theorem C_hostlerref01uhas_ok {w0 : World} (hw : Base w0) : (C_hostlerref01uhas).Ok w0 PP := TableOk.ok (w0 := w0) (P := PP) (l := []) trivial
theorem B_hostlerref01uhas_ok : codeOk F_hostlerref01uhas.ntmps B_hostlerref01uhas = true := by kernel_rfl
def r_hostlerref01uhas_p52 (K : AV → AH → Prop) (Y52 : List AV → AH → Prop) (s : List AV) (H : AH) : Prop := match s with
| [t0, t1, t5] =>
  bnd (lenStr t0) fun t8u1 =>
  bnd (abin PP .lss 3 t5 t8u1) fun t9u2 =>
  branch t9u2 (
  bnd (idxStr t0 t5) fun t14u3 =>
  bnd (abin PP .eql 5 t14u3 t1) fun t16u4 =>
  branch t16u4 (
  K (.bool true) H) (
  bnd (abin PP .add 3 t5 (.int .i64 1)) fun t11u5 =>
  Y52 [t0, t1, t11u5] H)) (
  K (.bool false) H)
| _ => False
def r_hostlerref01uhas : AFn := fun args H K => match args with
| [t0, t1] =>
  LoopP (r_hostlerref01uhas_p52 K) [t0, t1, (.int .i64 0)] H
| _ => False
theorem s_hostlerref01uhas_p52 {w0 : World} (hw : Base w0) {K : AV → AH → Prop} : Pt w0 PP F_hostlerref01uhas F_hostlerref01uhas.ntmps B_hostlerref01uhas K 52 (fun ρ H => LoopP (r_hostlerref01uhas_p52 K) [ρ 0, ρ 1, ρ 5] H) :=
  Pt.loop (st := fun ρ => [ρ 0, ρ 1, ρ 5]) fun Y52 h52 => Pt.walk_eq (p := [false, false, true, false, true]) (ct := C_hostlerref01uhas) (tab := [(52, fun ρ H => Y52 [ρ 0, ρ 1, ρ 5] H)])
    (C_hostlerref01uhas_ok hw) PP_mixed B_hostlerref01uhas_ok ⟨h52, trivial⟩ (by kernel_rfl)
theorem r_hostlerref01uhas_ok {w0 : World} (hw : Base w0) : FnOk w0 PP 74 (r_hostlerref01uhas) := ⟨⟨F_hostlerref01uhas, by kernel_rfl, by kernel_rfl, by kernel_rfl⟩, sound_of_pt (fn := F_hostlerref01uhas) (body := B_hostlerref01uhas) (n := 2) (by kernel_rfl) (by kernel_rfl)
  (fun args H K h => by unfold r_hostlerref01uhas at h; split at h; rfl; exact h.elim) fun K => Pt.walk_eq (p := []) (ct := C_hostlerref01uhas) (tab := [(52, fun ρ H => LoopP (r_hostlerref01uhas_p52 K) [ρ 0, ρ 1, ρ 5] H)])
    (C_hostlerref01uhas_ok hw) PP_mixed B_hostlerref01uhas_ok ⟨s_hostlerref01uhas_p52 hw, trivial⟩ (by kernel_rfl)⟩

abbrev k_hostlerref01ufield : Nat := 75
-- hostler/hostlerref01.field
noncomputable abbrev F_hostlerref01ufield : Func := Go.Proofs.Tryz.f75
noncomputable def B_hostlerref01ufield : Code := (F_hostlerref01ufield.body).getD .skip
def C_hostlerref01ufield : Table := tableOf []
theorem C_hostlerref01ufield_ok {w0 : World} (hw : Base w0) : (C_hostlerref01ufield).Ok w0 PP := TableOk.ok (w0 := w0) (P := PP) (l := []) trivial
theorem B_hostlerref01ufield_ok : codeOk F_hostlerref01ufield.ntmps B_hostlerref01ufield = true := by kernel_rfl
def r_hostlerref01ufield : AFn := fun args H K => match args with
| [t0, t1, t2] =>
  aguard (gwant true t1) (fun k_3 =>
  k_3 t0 H) H fun t9u1 H_2 =>
  aguard (gwant true t1) (fun k_6 =>
  bnd (abin PP .geq 3 t9u1 (.int .i64 1)) fun t10u7 =>
  k_6 t10u7 H_2) H_2 fun t10u4 H_5 =>
  bnd (pickV t1 t10u4 (.bool false)) fun t11u8 =>
  aguard (gwant true t11u8) (fun k_11 =>
  k_11 t0 H_5) H_5 fun t13u9 H_10 =>
  aguard (gwant true t11u8) (fun k_14 =>
  k_14 t2 H_10) H_10 fun t14u12 H_13 =>
  aguard (gwant true t11u8) (fun k_17 =>
  bnd (abin PP .leq 3 t13u9 t14u12) fun t15u18 =>
  k_17 t15u18 H_13) H_13 fun t15u15 H_16 =>
  bnd (pickV t11u8 t15u15 (.bool false)) fun t16u19 =>
  aguard (gwant false t16u19) (fun k_22 =>
  k_22 t1 H_16) H_16 fun t18u20 H_21 =>
  aguard (gwant false t16u19) (fun k_25 =>
  bnd (aun .not t18u20) fun t19u26 =>
  k_25 t19u26 H_21) H_21 fun t19u23 H_24 =>
  aguard (gwant false t16u19) (fun k_29 =>
  k_29 t19u23 H_24) H_24 fun t20u27 H_28 =>
  aguard (gwant true t20u27) (fun k_32 =>
  k_32 t0 H_28) H_28 fun t21u30 H_31 =>
  aguard (gwant true t20u27) (fun k_35 =>
  bnd (abin PP .eql 3 t21u30 (.int .i64 0)) fun t22u36 =>
  k_35 t22u36 H_31) H_31 fun t22u33 H_34 =>
  aguard (gwant false t16u19) (fun k_39 =>
  bnd (pickV t20u27 t22u33 (.bool false)) fun t23u40 =>
  k_39 t23u40 H_34) H_34 fun t23u37 H_38 =>
  bnd (pickV t16u19 (.bool true) t23u37) fun t24u41 =>
  K t24u41 H_38
| _ => False
theorem r_hostlerref01ufield_ok {w0 : World} (hw : Base w0) : FnOk w0 PP 75 (r_hostlerref01ufield) := ⟨⟨F_hostlerref01ufield, by kernel_rfl, by kernel_rfl, by kernel_rfl⟩, sound_of_pt (fn := F_hostlerref01ufield) (body := B_hostlerref01ufield) (n := 3) (by kernel_rfl) (by kernel_rfl)
  (fun args H K h => by unfold r_hostlerref01ufield at h; split at h; rfl; exact h.elim) fun K => Pt.walk_eq (p := []) (ct := C_hostlerref01ufield) (tab := [])
    (C_hostlerref01ufield_ok hw) PP_mixed B_hostlerref01ufield_ok trivial (by kernel_rfl)⟩

abbrev k_hostlerref01uwhole : Nat := 132
-- hostler/hostlerref01.whole
noncomputable abbrev F_hostlerref01uwhole : Func := Go.Proofs.Tryz.f132
noncomputable def B_hostlerref01uwhole : Code := (F_hostlerref01uwhole.body).getD .skip
def C_hostlerref01uwhole : Table := tableOf []
theorem C_hostlerref01uwhole_ok {w0 : World} (hw : Base w0) : (C_hostlerref01uwhole).Ok w0 PP := TableOk.ok (w0 := w0) (P := PP) (l := []) trivial
theorem B_hostlerref01uwhole_ok : codeOk F_hostlerref01uwhole.ntmps B_hostlerref01uwhole = true := by kernel_rfl
def r_hostlerref01uwhole : AFn := fun args H K => match args with
| [t0, t1] =>
  bnd (abin PP .geq 86 t0 (.float .f64 0)) fun t7u1 =>
  aguard (gwant true t7u1) (fun k_4 =>
  k_4 t0 H) H fun t9u2 H_3 =>
  aguard (gwant true t7u1) (fun k_7 =>
  k_7 t1 H_3) H_3 fun t10u5 H_6 =>
  aguard (gwant true t7u1) (fun k_10 =>
  bnd (convR (.int .i64) (.float .f64) t10u5) fun t11u11 =>
  k_10 t11u11 H_6) H_6 fun t11u8 H_9 =>
  aguard (gwant true t7u1) (fun k_14 =>
  bnd (abin PP .leq 86 t9u2 t11u8) fun t12u15 =>
  k_14 t12u15 H_9) H_9 fun t12u12 H_13 =>
  bnd (pickV t7u1 t12u12 (.bool false)) fun t13u16 =>
  bnd (aun .not t13u16) fun t14u17 =>
  aguard (gwant false t14u17) (fun k_20 =>
  k_20 t0 H_13) H_13 fun t16u18 H_19 =>
  aguard (gwant false t14u17) (fun k_23 =>
  bnd (convR (.float .f64) (.int .i64) t16u18) fun t17u24 =>
  k_23 t17u24 H_19) H_19 fun t17u21 H_22 =>
  aguard (gwant false t14u17) (fun k_27 =>
  bnd (convR (.int .i64) (.float .f64) t17u21) fun t18u28 =>
  k_27 t18u28 H_22) H_22 fun t18u25 H_26 =>
  aguard (gwant false t14u17) (fun k_31 =>
  k_31 t0 H_26) H_26 fun t19u29 H_30 =>
  aguard (gwant false t14u17) (fun k_34 =>
  bnd (abin PP .neq 86 t18u25 t19u29) fun t20u35 =>
  k_34 t20u35 H_30) H_30 fun t20u32 H_33 =>
  bnd (pickV t14u17 (.bool true) t20u32) fun t21u36 =>
  branch t21u36 (
  K (.tup [(.int .i64 0), (.bool false)]) H_33) (
  bnd (convR (.float .f64) (.int .i64) t0) fun t23u37 =>
  K (.tup [t23u37, (.bool true)]) H_33)
| _ => False
theorem r_hostlerref01uwhole_ok {w0 : World} (hw : Base w0) : FnOk w0 PP 132 (r_hostlerref01uwhole) := ⟨⟨F_hostlerref01uwhole, by kernel_rfl, by kernel_rfl, by kernel_rfl⟩, sound_of_pt (fn := F_hostlerref01uwhole) (body := B_hostlerref01uwhole) (n := 2) (by kernel_rfl) (by kernel_rfl)
  (fun args H K h => by unfold r_hostlerref01uwhole at h; split at h; rfl; exact h.elim) fun K => Pt.walk_eq (p := []) (ct := C_hostlerref01uwhole) (tab := [])
    (C_hostlerref01uwhole_ok hw) PP_mixed B_hostlerref01uwhole_ok trivial (by kernel_rfl)⟩

abbrev k_hostlerref01uParts : Nat := 120
-- hostler/hostlerref01.Parts
noncomputable abbrev F_hostlerref01uParts : Func := Go.Proofs.Tryz.f120
noncomputable def B_hostlerref01uParts : Code := (F_hostlerref01uParts.body).getD .skip
def C_hostlerref01uParts : Table := tableOf [(132, r_hostlerref01uwhole)]
theorem C_hostlerref01uParts_ok {w0 : World} (hw : Base w0) : (C_hostlerref01uParts).Ok w0 PP := TableOk.ok (w0 := w0) (P := PP) (l := [(132, r_hostlerref01uwhole)]) ⟨(r_hostlerref01uwhole_ok hw).call, trivial⟩
theorem B_hostlerref01uParts_ok : codeOk F_hostlerref01uParts.ntmps B_hostlerref01uParts = true := by kernel_rfl
def r_hostlerref01uParts : AFn := fun args H K => match args with
| [t0] =>
  bnd (areal t0) fun t11u1 =>
  r_hostlerref01uwhole [t11u1, (.int .i64 100000)] H fun t12u2 H_3 =>
  bnd (aextract t12u2 0) fun t13u4 =>
  bnd (aextract t12u2 1) fun t14u5 =>
  bnd (aimag t0) fun t17u6 =>
  r_hostlerref01uwhole [t17u6, (.int .i64 100000)] H_3 fun t18u7 H_8 =>
  bnd (aextract t18u7 0) fun t19u9 =>
  bnd (aextract t18u7 1) fun t20u10 =>
  bnd (aun .not t14u5) fun t22u11 =>
  aguard (gwant false t22u11) (fun k_14 =>
  k_14 t20u10 H_8) H_8 fun t24u12 H_13 =>
  aguard (gwant false t22u11) (fun k_17 =>
  bnd (aun .not t24u12) fun t25u18 =>
  k_17 t25u18 H_13) H_13 fun t25u15 H_16 =>
  bnd (pickV t22u11 (.bool true) t25u15) fun t26u19 =>
  branch t26u19 (
  K (.tup [(.int .i64 0), (.int .i64 0), (.bool false)]) H_16) (
  K (.tup [t13u4, t19u9, (.bool true)]) H_16)
| _ => False
theorem r_hostlerref01uParts_ok {w0 : World} (hw : Base w0) : FnOk w0 PP 120 (r_hostlerref01uParts) := ⟨⟨F_hostlerref01uParts, by kernel_rfl, by kernel_rfl, by kernel_rfl⟩, sound_of_pt (fn := F_hostlerref01uParts) (body := B_hostlerref01uParts) (n := 1) (by kernel_rfl) (by kernel_rfl)
  (fun args H K h => by unfold r_hostlerref01uParts at h; split at h; rfl; exact h.elim) fun K => Pt.walk_eq (p := []) (ct := C_hostlerref01uParts) (tab := [])
    (C_hostlerref01uParts_ok hw) PP_mixed B_hostlerref01uParts_ok trivial (by kernel_rfl)⟩

abbrev k_hostlerref01uNeed : Nat := 102
-- hostler/hostlerref01.Need
noncomputable abbrev F_hostlerref01uNeed : Func := Go.Proofs.Tryz.f102
noncomputable def B_hostlerref01uNeed : Code := (F_hostlerref01uNeed.body).getD .skip
def C_hostlerref01uNeed : Table := tableOf [(120, r_hostlerref01uParts)]
theorem C_hostlerref01uNeed_ok {w0 : World} (hw : Base w0) : (C_hostlerref01uNeed).Ok w0 PP := TableOk.ok (w0 := w0) (P := PP) (l := [(120, r_hostlerref01uParts)]) ⟨(r_hostlerref01uParts_ok hw).call, trivial⟩
theorem B_hostlerref01uNeed_ok : codeOk F_hostlerref01uNeed.ntmps B_hostlerref01uNeed = true := by kernel_rfl
def r_hostlerref01uNeed : AFn := fun args H K => match args with
| [t0] =>
  r_hostlerref01uParts [t0] H fun t8u1 H_2 =>
  bnd (aextract t8u1 0) fun t9u3 =>
  bnd (aextract t8u1 1) fun t10u4 =>
  bnd (aextract t8u1 2) fun t11u5 =>
  aguard (gwant true t11u5) (fun k_8 =>
  k_8 t9u3 H_2) H_2 fun t14u6 H_7 =>
  aguard (gwant true t11u5) (fun k_11 =>
  bnd (abin PP .leq 3 t14u6 (.int .i64 1000)) fun t15u12 =>
  k_11 t15u12 H_7) H_7 fun t15u9 H_10 =>
  bnd (pickV t11u5 t15u9 (.bool false)) fun t16u13 =>
  aguard (gwant true t16u13) (fun k_16 =>
  k_16 t10u4 H_10) H_10 fun t18u14 H_15 =>
  aguard (gwant true t16u13) (fun k_19 =>
  bnd (abin PP .leq 3 t18u14 (.int .i64 1000)) fun t19u20 =>
  k_19 t19u20 H_15) H_15 fun t19u17 H_18 =>
  bnd (pickV t16u13 t19u17 (.bool false)) fun t20u21 =>
  aguard (gwant true t20u21) (fun k_24 =>
  k_24 t9u3 H_18) H_18 fun t22u22 H_23 =>
  aguard (gwant true t20u21) (fun k_27 =>
  k_27 t10u4 H_23) H_23 fun t23u25 H_26 =>
  aguard (gwant true t20u21) (fun k_30 =>
  bnd (abin PP .add 3 t22u22 t23u25) fun t24u31 =>
  k_30 t24u31 H_26) H_26 fun t24u28 H_29 =>
  aguard (gwant true t20u21) (fun k_34 =>
  bnd (abin PP .gtr 3 t24u28 (.int .i64 0)) fun t25u35 =>
  k_34 t25u35 H_29) H_29 fun t25u32 H_33 =>
  bnd (pickV t20u21 t25u32 (.bool false)) fun t26u36 =>
  K t26u36 H_33
| _ => False
theorem r_hostlerref01uNeed_ok {w0 : World} (hw : Base w0) : FnOk w0 PP 102 (r_hostlerref01uNeed) := ⟨⟨F_hostlerref01uNeed, by kernel_rfl, by kernel_rfl, by kernel_rfl⟩, sound_of_pt (fn := F_hostlerref01uNeed) (body := B_hostlerref01uNeed) (n := 1) (by kernel_rfl) (by kernel_rfl)
  (fun args H K h => by unfold r_hostlerref01uNeed at h; split at h; rfl; exact h.elim) fun K => Pt.walk_eq (p := []) (ct := C_hostlerref01uNeed) (tab := [])
    (C_hostlerref01uNeed_ok hw) PP_mixed B_hostlerref01uNeed_ok trivial (by kernel_rfl)⟩

abbrev k_hostlerref01uAll : Nat := 103
-- hostler/hostlerref01.All
noncomputable abbrev F_hostlerref01uAll : Func := Go.Proofs.Tryz.f103
noncomputable def B_hostlerref01uAll : Code := (F_hostlerref01uAll.body).getD .skip
def C_hostlerref01uAll : Table := tableOf [(101, r_hostlerref01uRight)]
theorem C_hostlerref01uAll_ok {w0 : World} (hw : Base w0) : (C_hostlerref01uAll).Ok w0 PP := TableOk.ok (w0 := w0) (P := PP) (l := [(101, r_hostlerref01uRight)]) ⟨(r_hostlerref01uRight_ok hw).call, trivial⟩
theorem B_hostlerref01uAll_ok : codeOk F_hostlerref01uAll.ntmps B_hostlerref01uAll = true := by kernel_rfl
def r_hostlerref01uAll_p27036 (K : AV → AH → Prop) (Y52 : List AV → AH → Prop) (Y27036 : List AV → AH → Prop) (s : List AV) (H : AH) : Prop := match s with
| [t0, t3, t4, t6, t7] =>
  bnd (abin PP .lss 3 t4 t3) fun t18u8 =>
  branch t18u8 (
  bnd (idxA 1 t0 t4) fun t23u9 =>
  bnd (ld1 t23u9 H) fun t24u10 =>
  bnd (idxA 1 t0 t3) fun t27u11 =>
  bnd (ld1 t27u11 H) fun t28u12 =>
  bnd (abin PP .eql 9 t24u10 t28u12) fun t29u13 =>
  branch t29u13 (
  K (.bool false) H) (
  bnd (abin PP .add 3 t4 (.int .i64 1)) fun t20u14 =>
  Y27036 [t0, t3, t20u14, t6, t7] H)) (
  bnd (abin PP .add 3 t7 (.int .i64 1)) fun t30u15 =>
  Y52 [t0, t6, t30u15] H)
| _ => False
def r_hostlerref01uAll_p52 (K : AV → AH → Prop) (Y52 : List AV → AH → Prop) (s : List AV) (H : AH) : Prop := match s with
| [t0, t6, t7] =>
  bnd (abin PP .lss 3 t7 t6) fun t8u2 =>
  branch t8u2 (
  bnd (idxA 1 t0 t7) fun t12u3 =>
  bnd (ld1 t12u3 H) fun t13u4 =>
  r_hostlerref01uRight [t13u4] H fun t14u5 H_6 =>
  bnd (aun .not t14u5) fun t15u7 =>
  branch t15u7 (
  K (.bool false) H_6) (
  LoopP (r_hostlerref01uAll_p27036 K Y52) [t0, t7, (.int .i64 0), t6, t7] H_6)) (
  K (.bool true) H)
| _ => False
def r_hostlerref01uAll : AFn := fun args H K => match args with
| [t0] =>
  bnd (lenSl t0) fun t6u1 =>
  LoopP (r_hostlerref01uAll_p52 K) [t0, t6u1, (.int .i64 0)] H
| _ => False
theorem s_hostlerref01uAll_p27036 {w0 : World} (hw : Base w0) {K : AV → AH → Prop} {Y52 : List AV → AH → Prop} (h52 : Pt w0 PP F_hostlerref01uAll F_hostlerref01uAll.ntmps B_hostlerref01uAll K 52 (fun ρ H => Y52 [ρ 0, ρ 6, ρ 7] H)) : Pt w0 PP F_hostlerref01uAll F_hostlerref01uAll.ntmps B_hostlerref01uAll K 27036 (fun ρ H => LoopP (r_hostlerref01uAll_p27036 K Y52) [ρ 0, ρ 3, ρ 4, ρ 6, ρ 7] H) :=
  Pt.loop (st := fun ρ => [ρ 0, ρ 3, ρ 4, ρ 6, ρ 7]) fun Y27036 h27036 => Pt.walk_eq (p := [false, false, true, true, true, false, false, true, true, false, false, true, false, true]) (ct := C_hostlerref01uAll) (tab := [(27036, fun ρ H => Y27036 [ρ 0, ρ 3, ρ 4, ρ 6, ρ 7] H), (52, fun ρ H => Y52 [ρ 0, ρ 6, ρ 7] H)])
    (C_hostlerref01uAll_ok hw) PP_mixed B_hostlerref01uAll_ok ⟨h27036, h52, trivial⟩ (by kernel_rfl)
theorem s_hostlerref01uAll_p52 {w0 : World} (hw : Base w0) {K : AV → AH → Prop} : Pt w0 PP F_hostlerref01uAll F_hostlerref01uAll.ntmps B_hostlerref01uAll K 52 (fun ρ H => LoopP (r_hostlerref01uAll_p52 K) [ρ 0, ρ 6, ρ 7] H) :=
  Pt.loop (st := fun ρ => [ρ 0, ρ 6, ρ 7]) fun Y52 h52 => Pt.walk_eq (p := [false, false, true, false, true]) (ct := C_hostlerref01uAll) (tab := [(52, fun ρ H => Y52 [ρ 0, ρ 6, ρ 7] H), (27036, fun ρ H => LoopP (r_hostlerref01uAll_p27036 K Y52) [ρ 0, ρ 3, ρ 4, ρ 6, ρ 7] H)])
    (C_hostlerref01uAll_ok hw) PP_mixed B_hostlerref01uAll_ok ⟨h52, s_hostlerref01uAll_p27036 hw h52, trivial⟩ (by kernel_rfl)
theorem r_hostlerref01uAll_ok {w0 : World} (hw : Base w0) : FnOk w0 PP 103 (r_hostlerref01uAll) := ⟨⟨F_hostlerref01uAll, by kernel_rfl, by kernel_rfl, by kernel_rfl⟩, sound_of_pt (fn := F_hostlerref01uAll) (body := B_hostlerref01uAll) (n := 1) (by kernel_rfl) (by kernel_rfl)
  (fun args H K h => by unfold r_hostlerref01uAll at h; split at h; rfl; exact h.elim) fun K => Pt.walk_eq (p := []) (ct := C_hostlerref01uAll) (tab := [(52, fun ρ H => LoopP (r_hostlerref01uAll_p52 K) [ρ 0, ρ 6, ρ 7] H)])
    (C_hostlerref01uAll_ok hw) PP_mixed B_hostlerref01uAll_ok ⟨s_hostlerref01uAll_p52 hw, trivial⟩ (by kernel_rfl)⟩

abbrev k_hostlerref01uItems : Nat := 76
-- hostler/hostlerref01.Items
noncomputable abbrev F_hostlerref01uItems : Func := Go.Proofs.Tryz.f76
noncomputable def B_hostlerref01uItems : Code := (F_hostlerref01uItems.body).getD .skip
def C_hostlerref01uItems : Table := tableOf [(102, r_hostlerref01uNeed), (103, r_hostlerref01uAll)]
theorem C_hostlerref01uItems_ok {w0 : World} (hw : Base w0) : (C_hostlerref01uItems).Ok w0 PP := TableOk.ok (w0 := w0) (P := PP) (l := [(102, r_hostlerref01uNeed), (103, r_hostlerref01uAll)]) ⟨(r_hostlerref01uNeed_ok hw).call, (r_hostlerref01uAll_ok hw).call, trivial⟩
theorem B_hostlerref01uItems_ok : codeOk F_hostlerref01uItems.ntmps B_hostlerref01uItems = true := by kernel_rfl
def r_hostlerref01uItems_p116 (K : AV → AH → Prop) (Y116 : List AV → AH → Prop) (s : List AV) (H : AH) : Prop := match s with
| [t0, t1, t5, t8, t9, t10] =>
  bnd (abin PP .lss 3 t10 t9) fun t11u2 =>
  branch t11u2 (
  bnd (idxA 2 t8 t10) fun t12u3 =>
  bnd (ldN 2 t12u3 H) fun t13u4 =>
(fun (t7u5 : AV) (H_6 : AH) =>
  bnd (ast 2 t7u5 t13u4 H_6) fun H_7 =>
  bnd (aoff 0 t7u5) fun t15u8 =>
  bnd (ld1 t15u8 H_7) fun t16u9 =>
  bnd (buildSl 1 1 [(0, t16u9)]) fun t17u10 =>
  appK 1 16 t5 t17u10 H_7 fun t18u11 H_12 =>
  bnd (abin PP .eql 3 t0 (.int .i64 5)) fun t20u13 =>
  aguard (gwant true t20u13) (fun k_16 =>
  bnd (aoff 1 t7u5) fun t22u17 =>
  k_16 t22u17 H_12) H_12 fun t22u14 H_15 =>
  aguard (gwant true t20u13) (fun k_20 =>
  bnd (ld1 t22u14 H_15) fun t23u21 =>
  k_20 t23u21 H_15) H_15 fun t23u18 H_19 =>
  aguard (gwant true t20u13) (fun k_24 =>
  bnd (abin PP .neq 83 t23u18 (.cplx .f64 0 0)) fun t24u25 =>
  k_24 t24u25 H_19) H_19 fun t24u22 H_23 =>
  bnd (pickV t20u13 t24u22 (.bool false)) fun t25u26 =>
  aguard (gwant false t25u26) (fun k_29 =>
  k_29 t0 H_23) H_23 fun t27u27 H_28 =>
  aguard (gwant false t25u26) (fun k_32 =>
  bnd (abin PP .neq 3 t27u27 (.int .i64 5)) fun t28u33 =>
  k_32 t28u33 H_28) H_28 fun t28u30 H_31 =>
  aguard (gwant false t25u26) (fun k_36 =>
  k_36 t28u30 H_31) H_31 fun t29u34 H_35 =>
  aguard (gwant true t29u34) (fun k_39 =>
  bnd (aoff 1 t7u5) fun t30u40 =>
  k_39 t30u40 H_35) H_35 fun t30u37 H_38 =>
  aguard (gwant true t29u34) (fun k_43 =>
  bnd (ld1 t30u37 H_38) fun t31u44 =>
  k_43 t31u44 H_38) H_38 fun t31u41 H_42 =>
  aguard (gwant true t29u34) (fun k_47 =>
  r_hostlerref01uNeed [t31u41] H_42 fun t32u48 H_49 =>
  k_47 t32u48 H_49) H_42 fun t32u45 H_46 =>
  aguard (gwant true t29u34) (fun k_52 =>
  bnd (aun .not t32u45) fun t33u53 =>
  k_52 t33u53 H_46) H_46 fun t33u50 H_51 =>
  aguard (gwant false t25u26) (fun k_56 =>
  bnd (pickV t29u34 t33u50 (.bool false)) fun t34u57 =>
  k_56 t34u57 H_51) H_51 fun t34u54 H_55 =>
  bnd (pickV t25u26 (.bool true) t34u54) fun t35u58 =>
  branch t35u58 (
  K (.bool false) H_55) (
  bnd (abin PP .add 3 t10 (.int .i64 1)) fun t36u59 =>
  Y116 [t0, t1, t18u11, t8, t9, t36u59] H_55)) (.ptr H.next 0) (H.add (.cells [.str [], .cplx .f64 0 0]))) (
  bnd (abin PP .eql 3 t0 (.int .i64 1)) fun t39u60 =>
  branch t39u60 (
  bnd (lenSl t1) fun t41u61 =>
  bnd (abin PP .geq 3 t41u61 (.int .i64 1)) fun t42u62 =>
  aguard (gwant true t42u62) (fun k_65 =>
  k_65 t1 H) H fun t44u63 H_64 =>
  aguard (gwant true t42u62) (fun k_68 =>
  bnd (lenSl t44u63) fun t45u69 =>
  k_68 t45u69 H_64) H_64 fun t45u66 H_67 =>
  aguard (gwant true t42u62) (fun k_72 =>
  bnd (abin PP .leq 3 t45u66 (.int .i64 4)) fun t46u73 =>
  k_72 t46u73 H_67) H_67 fun t46u70 H_71 =>
  bnd (pickV t42u62 t46u70 (.bool false)) fun t47u74 =>
  aguard (gwant true t47u74) (fun k_77 =>
  k_77 t5 H_71) H_71 fun t49u75 H_76 =>
  aguard (gwant true t47u74) (fun k_80 =>
  r_hostlerref01uAll [t49u75] H_76 fun t50u81 H_82 =>
  k_80 t50u81 H_82) H_76 fun t50u78 H_79 =>
  bnd (pickV t47u74 t50u78 (.bool false)) fun t51u83 =>
  K t51u83 H_79) (
  bnd (abin PP .eql 3 t0 (.int .i64 14)) fun t53u84 =>
  branch t53u84 (
  bnd (lenSl t1) fun t55u85 =>
  bnd (abin PP .eql 3 t55u85 (.int .i64 1)) fun t56u86 =>
  aguard (gwant true t56u86) (fun k_89 =>
  k_89 t5 H) H fun t58u87 H_88 =>
  aguard (gwant true t56u86) (fun k_92 =>
  r_hostlerref01uAll [t58u87] H_88 fun t59u93 H_94 =>
  k_92 t59u93 H_94) H_88 fun t59u90 H_91 =>
  bnd (pickV t56u86 t59u90 (.bool false)) fun t60u95 =>
  K t60u95 H_91) (
  bnd (abin PP .eql 3 t0 (.int .i64 5)) fun t62u96 =>
  branch t62u96 (
  bnd (lenSl t1) fun t64u97 =>
  bnd (abin PP .leq 3 t64u97 (.int .i64 4)) fun t65u98 =>
  aguard (gwant true t65u98) (fun k_101 =>
  k_101 t5 H) H fun t67u99 H_100 =>
  aguard (gwant true t65u98) (fun k_104 =>
  r_hostlerref01uAll [t67u99] H_100 fun t68u105 H_106 =>
  k_104 t68u105 H_106) H_100 fun t68u102 H_103 =>
  bnd (pickV t65u98 t68u102 (.bool false)) fun t69u107 =>
  K t69u107 H_103) (
  bnd (lenSl t1) fun t71u108 =>
  bnd (abin PP .eql 3 t71u108 (.int .i64 0)) fun t72u109 =>
  K t72u109 H))))
| _ => False
def r_hostlerref01uItems : AFn := fun args H K => match args with
| [t0, t1] =>
  bnd (lenSl t1) fun t9u1 =>
  LoopP (r_hostlerref01uItems_p116 K) [t0, t1, (.nils), t1, t9u1, (.int .i64 0)] H
| _ => False
theorem s_hostlerref01uItems_p116 {w0 : World} (hw : Base w0) {K : AV → AH → Prop} : Pt w0 PP F_hostlerref01uItems F_hostlerref01uItems.ntmps B_hostlerref01uItems K 116 (fun ρ H => LoopP (r_hostlerref01uItems_p116 K) [ρ 0, ρ 1, ρ 5, ρ 8, ρ 9, ρ 10] H) :=
  Pt.loop (st := fun ρ => [ρ 0, ρ 1, ρ 5, ρ 8, ρ 9, ρ 10]) fun Y116 h116 => Pt.walk_eq (p := [false, false, true, false, true, true]) (ct := C_hostlerref01uItems) (tab := [(116, fun ρ H => Y116 [ρ 0, ρ 1, ρ 5, ρ 8, ρ 9, ρ 10] H)])
    (C_hostlerref01uItems_ok hw) PP_mixed B_hostlerref01uItems_ok ⟨h116, trivial⟩ (by kernel_rfl)
theorem r_hostlerref01uItems_ok {w0 : World} (hw : Base w0) : FnOk w0 PP 76 (r_hostlerref01uItems) := ⟨⟨F_hostlerref01uItems, by kernel_rfl, by kernel_rfl, by kernel_rfl⟩, sound_of_pt (fn := F_hostlerref01uItems) (body := B_hostlerref01uItems) (n := 2) (by kernel_rfl) (by kernel_rfl)
  (fun args H K h => by unfold r_hostlerref01uItems at h; split at h; rfl; exact h.elim) fun K => Pt.walk_eq (p := []) (ct := C_hostlerref01uItems) (tab := [(116, fun ρ H => LoopP (r_hostlerref01uItems_p116 K) [ρ 0, ρ 1, ρ 5, ρ 8, ρ 9, ρ 10] H)])
    (C_hostlerref01uItems_ok hw) PP_mixed B_hostlerref01uItems_ok ⟨s_hostlerref01uItems_p116 hw, trivial⟩ (by kernel_rfl)⟩

abbrev k_hostlerref01uFields : Nat := 40
-- hostler/hostlerref01.Fields
noncomputable abbrev F_hostlerref01uFields : Func := Go.Proofs.Tryz.f40
noncomputable def B_hostlerref01uFields : Code := (F_hostlerref01uFields.body).getD .skip
def C_hostlerref01uFields : Table := tableOf []
theorem C_hostlerref01uFields_ok {w0 : World} (hw : Base w0) : (C_hostlerref01uFields).Ok w0 PP := TableOk.ok (w0 := w0) (P := PP) (l := []) trivial
theorem B_hostlerref01uFields_ok : codeOk F_hostlerref01uFields.ntmps B_hostlerref01uFields = true := by kernel_rfl
def r_hostlerref01uFields : AFn := fun args H K => match args with
| [t0] =>
  bnd (buildSl 1 18 [(0, (.str [63])), (1, (.str [70, 69, 73])), (2, (.str [70, 84])), (3, (.str [70])), (4, (.str [70, 84, 85, 80])), (5, (.str [70, 73])), (6, (.str [])), (7, (.str [70, 69, 78])), (8, (.str [70, 69, 78, 84, 83])), (9, (.str [70, 69, 78])), (10, (.str [80])), (11, (.str [70, 84, 85, 80, 83])), (12, (.str [70, 84, 83])), (13, (.str [70, 69, 78])), (14, (.str [70, 69, 78, 73])), (15, (.str [70, 69, 78, 84])), (16, (.str [70, 69, 78])), (17, (.str [70, 69, 78]))]) fun t4u1 =>
  bnd (abin PP .lss 3 t0 (.int .i64 1)) fun t6u2 =>
  aguard (gwant false t6u2) (fun k_5 =>
  k_5 t0 H) H fun t8u3 H_4 =>
  aguard (gwant false t6u2) (fun k_8 =>
  k_8 t4u1 H_4) H_4 fun t9u6 H_7 =>
  aguard (gwant false t6u2) (fun k_11 =>
  bnd (lenSl t9u6) fun t10u12 =>
  k_11 t10u12 H_7) H_7 fun t10u9 H_10 =>
  aguard (gwant false t6u2) (fun k_15 =>
  bnd (abin PP .geq 3 t8u3 t10u9) fun t11u16 =>
  k_15 t11u16 H_10) H_10 fun t11u13 H_14 =>
  bnd (pickV t6u2 (.bool true) t11u13) fun t12u17 =>
  branch t12u17 (
  K (.str [63]) H_14) (
  bnd (idxA 1 t4u1 t0) fun t15u18 =>
  bnd (ld1 t15u18 H_14) fun t16u19 =>
  K t16u19 H_14)
| _ => False
theorem r_hostlerref01uFields_ok {w0 : World} (hw : Base w0) : FnOk w0 PP 40 (r_hostlerref01uFields) := ⟨⟨F_hostlerref01uFields, by kernel_rfl, by kernel_rfl, by kernel_rfl⟩, sound_of_pt (fn := F_hostlerref01uFields) (body := B_hostlerref01uFields) (n := 1) (by kernel_rfl) (by kernel_rfl)
  (fun args H K h => by unfold r_hostlerref01uFields at h; split at h; rfl; exact h.elim) fun K => Pt.walk_eq (p := []) (ct := C_hostlerref01uFields) (tab := [])
    (C_hostlerref01uFields_ok hw) PP_mixed B_hostlerref01uFields_ok trivial (by kernel_rfl)⟩

abbrev k_hostlerref01uCheck : Nat := 41
-- hostler/hostlerref01.Check
noncomputable abbrev F_hostlerref01uCheck : Func := Go.Proofs.Tryz.f41
noncomputable def B_hostlerref01uCheck : Code := (F_hostlerref01uCheck.body).getD .skip
def C_hostlerref01uCheck : Table := tableOf [(40, r_hostlerref01uFields), (73, r_hostlerref01utext), (74, r_hostlerref01uhas), (75, r_hostlerref01ufield), (76, r_hostlerref01uItems)]
theorem C_hostlerref01uCheck_ok {w0 : World} (hw : Base w0) : (C_hostlerref01uCheck).Ok w0 PP := TableOk.ok (w0 := w0) (P := PP) (l := [(40, r_hostlerref01uFields), (73, r_hostlerref01utext), (74, r_hostlerref01uhas), (75, r_hostlerref01ufield), (76, r_hostlerref01uItems)]) ⟨(r_hostlerref01uFields_ok hw).call, (r_hostlerref01utext_ok hw).call, (r_hostlerref01uhas_ok hw).call, (r_hostlerref01ufield_ok hw).call, (r_hostlerref01uItems_ok hw).call, trivial⟩
theorem B_hostlerref01uCheck_ok : codeOk F_hostlerref01uCheck.ntmps B_hostlerref01uCheck = true := by kernel_rfl
def r_hostlerref01uCheck : AFn := fun args H K => match args with
| [t0] =>
  bnd (boxCells t0) fun z_1 =>
(fun (t1u2 : AV) (H_3 : AH) =>
  bnd (aoff 0 t1u2) fun t4u4 =>
  bnd (ld1 t4u4 H_3) fun t5u5 =>
  r_hostlerref01uFields [t5u5] H_3 fun t6u6 H_7 =>
  bnd (abin PP .neq 9 t6u6 (.str [63])) fun t8u8 =>
  aguard (gwant true t8u8) (fun k_10 =>
  bnd (aoff 1 t1u2) fun t10u11 =>
  k_10 t10u11 H_7) H_7 fun t10u9 _ =>
  aguard (gwant true t8u8) (fun k_13 =>
  bnd (ld1 t10u9 H_7) fun t11u14 =>
  k_13 t11u14 H_7) H_7 fun t11u12 _ =>
  aguard (gwant true t8u8) (fun k_16 =>
  k_16 t6u6 H_7) H_7 fun t12u15 _ =>
  aguard (gwant true t8u8) (fun k_19 =>
  r_hostlerref01uhas [t12u15, (.int .u8 70)] H_7 fun t13u20 H_21 =>
  k_19 t13u20 H_21) H_7 fun t13u17 H_18 =>
(wantE (gwant true t8u8) ((ld1 t10u9 H_18) = some t11u12)) ∧ (
  aguard (gwant true t8u8) (fun k_24 =>
  r_hostlerref01utext [t11u12, t13u17] H_18 fun t14u25 H_26 =>
  k_24 t14u25 H_26) H_18 fun t14u22 H_23 =>
  bnd (pickV t8u8 t14u22 (.bool false)) fun t15u27 =>
  aguard (gwant true t15u27) (fun k_29 =>
  bnd (aoff 2 t1u2) fun t17u30 =>
  k_29 t17u30 H_23) H_23 fun t17u28 _ =>
  aguard (gwant true t15u27) (fun k_32 =>
  bnd (ld1 t17u28 H_23) fun t18u33 =>
  k_32 t18u33 H_23) H_23 fun t18u31 _ =>
  aguard (gwant true t15u27) (fun k_35 =>
  k_35 t6u6 H_23) H_23 fun t19u34 _ =>
  aguard (gwant true t15u27) (fun k_38 =>
  r_hostlerref01uhas [t19u34, (.int .u8 69)] H_23 fun t20u39 H_40 =>
  k_38 t20u39 H_40) H_23 fun t20u36 H_37 =>
(wantE (gwant true t15u27) ((ld1 t17u28 H_37) = some t18u31)) ∧ (
  aguard (gwant true t15u27) (fun k_43 =>
  r_hostlerref01utext [t18u31, t20u36] H_37 fun t21u44 H_45 =>
  k_43 t21u44 H_45) H_37 fun t21u41 H_42 =>
  bnd (pickV t15u27 t21u41 (.bool false)) fun t22u46 =>
  aguard (gwant true t22u46) (fun k_48 =>
  bnd (aoff 3 t1u2) fun t24u49 =>
  k_48 t24u49 H_42) H_42 fun t24u47 _ =>
  aguard (gwant true t22u46) (fun k_51 =>
  bnd (ld1 t24u47 H_42) fun t25u52 =>
  k_51 t25u52 H_42) H_42 fun t25u50 _ =>
  aguard (gwant true t22u46) (fun k_54 =>
  k_54 t6u6 H_42) H_42 fun t26u53 _ =>
  aguard (gwant true t22u46) (fun k_57 =>
  r_hostlerref01uhas [t26u53, (.int .u8 84)] H_42 fun t27u58 H_59 =>
  k_57 t27u58 H_59) H_42 fun t27u55 H_56 =>
(wantE (gwant true t22u46) ((ld1 t24u47 H_56) = some t25u50)) ∧ (
  aguard (gwant true t22u46) (fun k_62 =>
  r_hostlerref01utext [t25u50, t27u55] H_56 fun t28u63 H_64 =>
  k_62 t28u63 H_64) H_56 fun t28u60 H_61 =>
  bnd (pickV t22u46 t28u60 (.bool false)) fun t29u65 =>
  aguard (gwant true t29u65) (fun k_67 =>
  bnd (aoff 4 t1u2) fun t31u68 =>
  k_67 t31u68 H_61) H_61 fun t31u66 _ =>
  aguard (gwant true t29u65) (fun k_70 =>
  bnd (ld1 t31u66 H_61) fun t32u71 =>
  k_70 t32u71 H_61) H_61 fun t32u69 _ =>
  aguard (gwant true t29u65) (fun k_73 =>
  k_73 t6u6 H_61) H_61 fun t33u72 _ =>
  aguard (gwant true t29u65) (fun k_76 =>
  r_hostlerref01uhas [t33u72, (.int .u8 78)] H_61 fun t34u77 H_78 =>
  k_76 t34u77 H_78) H_61 fun t34u74 H_75 =>
(wantE (gwant true t29u65) ((ld1 t31u66 H_75) = some t32u69)) ∧ (
  aguard (gwant true t29u65) (fun k_81 =>
  r_hostlerref01ufield [t32u69, t34u74, (.int .i64 2147483647)] H_75 fun t35u82 H_83 =>
  k_81 t35u82 H_83) H_75 fun t35u79 H_80 =>
  bnd (pickV t29u65 t35u79 (.bool false)) fun t36u84 =>
  aguard (gwant true t36u84) (fun k_86 =>
  bnd (aoff 6 t1u2) fun t38u87 =>
  k_86 t38u87 H_80) H_80 fun t38u85 _ =>
  aguard (gwant true t36u84) (fun k_89 =>
  bnd (ld1 t38u85 H_80) fun t39u90 =>
  k_89 t39u90 H_80) H_80 fun t39u88 _ =>
  aguard (gwant true t36u84) (fun k_92 =>
  k_92 t6u6 H_80) H_80 fun t40u91 _ =>
  aguard (gwant true t36u84) (fun k_95 =>
  r_hostlerref01uhas [t40u91, (.int .u8 85)] H_80 fun t41u96 H_97 =>
  k_95 t41u96 H_97) H_80 fun t41u93 H_94 =>
(wantE (gwant true t36u84) ((ld1 t38u85 H_94) = some t39u88)) ∧ (
  aguard (gwant true t36u84) (fun k_100 =>
  r_hostlerref01ufield [t39u88, t41u93, (.int .i64 2147483647)] H_94 fun t42u101 H_102 =>
  k_100 t42u101 H_102) H_94 fun t42u98 H_99 =>
  bnd (pickV t36u84 t42u98 (.bool false)) fun t43u103 =>
  aguard (gwant true t43u103) (fun k_105 =>
  bnd (aoff 7 t1u2) fun t45u106 =>
  k_105 t45u106 H_99) H_99 fun t45u104 _ =>
  aguard (gwant true t43u103) (fun k_108 =>
  bnd (ld1 t45u104 H_99) fun t46u109 =>
  k_108 t46u109 H_99) H_99 fun t46u107 _ =>
  aguard (gwant true t43u103) (fun k_111 =>
  k_111 t6u6 H_99) H_99 fun t47u110 _ =>
  aguard (gwant true t43u103) (fun k_114 =>
  r_hostlerref01uhas [t47u110, (.int .u8 80)] H_99 fun t48u115 H_116 =>
  k_114 t48u115 H_116) H_99 fun t48u112 H_113 =>
(wantE (gwant true t43u103) ((ld1 t45u104 H_113) = some t46u107)) ∧ (
  aguard (gwant true t43u103) (fun k_119 =>
  r_hostlerref01ufield [t46u107, t48u112, (.int .i64 2147483647)] H_113 fun t49u120 H_121 =>
  k_119 t49u120 H_121) H_113 fun t49u117 H_118 =>
  bnd (pickV t43u103 t49u117 (.bool false)) fun t50u122 =>
  aguard (gwant true t50u122) (fun k_124 =>
  bnd (aoff 5 t1u2) fun t52u125 =>
  k_124 t52u125 H_118) H_118 fun t52u123 _ =>
  aguard (gwant true t50u122) (fun k_127 =>
  bnd (ld1 t52u123 H_118) fun t53u128 =>
  k_127 t53u128 H_118) H_118 fun t53u126 _ =>
  aguard (gwant true t50u122) (fun k_130 =>
  k_130 t6u6 H_118) H_118 fun t54u129 _ =>
  aguard (gwant true t50u122) (fun k_133 =>
  r_hostlerref01uhas [t54u129, (.int .u8 83)] H_118 fun t55u134 H_135 =>
  k_133 t55u134 H_135) H_118 fun t55u131 H_132 =>
(wantE (gwant true t50u122) ((ld1 t52u123 H_132) = some t53u126)) ∧ (
  aguard (gwant true t50u122) (fun k_138 =>
  r_hostlerref01ufield [t53u126, t55u131, (.int .i64 7)] H_132 fun t56u139 H_140 =>
  k_138 t56u139 H_140) H_132 fun t56u136 H_137 =>
  bnd (pickV t50u122 t56u136 (.bool false)) fun t57u141 =>
  aguard (gwant true t57u141) (fun k_143 =>
  bnd (aoff 0 t1u2) fun t59u144 =>
  k_143 t59u144 H_137) H_137 fun t59u142 _ =>
  aguard (gwant true t57u141) (fun k_146 =>
  bnd (ld1 t59u142 H_137) fun t60u147 =>
  k_146 t60u147 H_137) H_137 fun t60u145 _ =>
  aguard (gwant true t57u141) (fun k_149 =>
  bnd (aoff 8 t1u2) fun t61u150 =>
  k_149 t61u150 H_137) H_137 fun t61u148 _ =>
  aguard (gwant true t57u141) (fun k_152 =>
  bnd (ld1 t61u148 H_137) fun t62u153 =>
  k_152 t62u153 H_137) H_137 fun t62u151 _ =>
  aguard (gwant true t57u141) (fun k_156 =>
  r_hostlerref01uItems [t60u145, t62u151] H_137 fun t63u157 H_158 =>
  k_156 t63u157 H_158) H_137 fun t63u154 H_155 =>
  bnd (pickV t57u141 t63u154 (.bool false)) fun t64u159 =>
  K t64u159 H_155)))))))) (.ptr H.next 0) (H.add (.cells z_1))
| _ => False
theorem r_hostlerref01uCheck_ok {w0 : World} (hw : Base w0) : FnOk w0 PP 41 (r_hostlerref01uCheck) := ⟨⟨F_hostlerref01uCheck, by kernel_rfl, by kernel_rfl, by kernel_rfl⟩, sound_of_pt (fn := F_hostlerref01uCheck) (body := B_hostlerref01uCheck) (n := 1) (by kernel_rfl) (by kernel_rfl)
  (fun args H K h => by unfold r_hostlerref01uCheck at h; split at h; rfl; exact h.elim) fun K => Pt.walk_eq (p := []) (ct := C_hostlerref01uCheck) (tab := [])
    (C_hostlerref01uCheck_ok hw) PP_mixed B_hostlerref01uCheck_ok trivial (by kernel_rfl)⟩

abbrev k_hostlerkeep_Text : Nat := 9
-- hostler/hostlerkeep.Text
noncomputable abbrev F_hostlerkeep_Text : Func := Go.Proofs.Tryz.f9
noncomputable def B_hostlerkeep_Text : Code := (F_hostlerkeep_Text.body).getD .skip
def C_hostlerkeep_Text : Table := tableOf []
theorem C_hostlerkeep_Text_ok {w0 : World} (hw : Base w0) : (C_hostlerkeep_Text).Ok w0 PP := TableOk.ok (w0 := w0) (P := PP) (l := []) trivial
theorem B_hostlerkeep_Text_ok : codeOk F_hostlerkeep_Text.ntmps B_hostlerkeep_Text = true := by kernel_rfl
def r_hostlerkeep_Text : AFn := fun args H K => match args with
| [t0, t1] =>
  bnd (lenStr t0) fun t7u1 =>
  bnd (amin2 t7u1 t1) fun t9u2 =>
  bnd (sliceStr t0 none (some t9u2) none) fun t10u3 =>
  K t10u3 H
| _ => False
theorem r_hostlerkeep_Text_ok {w0 : World} (hw : Base w0) : FnOk w0 PP 9 (r_hostlerkeep_Text) := ⟨⟨F_hostlerkeep_Text, by kernel_rfl, by kernel_rfl, by kernel_rfl⟩, sound_of_pt (fn := F_hostlerkeep_Text) (body := B_hostlerkeep_Text) (n := 2) (by kernel_rfl) (by kernel_rfl)
  (fun args H K h => by unfold r_hostlerkeep_Text at h; split at h; rfl; exact h.elim) fun K => Pt.walk_eq (p := []) (ct := C_hostlerkeep_Text) (tab := [])
    (C_hostlerkeep_Text_ok hw) PP_mixed B_hostlerkeep_Text_ok trivial (by kernel_rfl)⟩

abbrev k_hostlerlaw21ukinds : Nat := 39
-- hostler/hostlerlaw21.kinds
noncomputable abbrev F_hostlerlaw21ukinds : Func := Go.Proofs.Tryz.f39
noncomputable def B_hostlerlaw21ukinds : Code := (F_hostlerlaw21ukinds.body).getD .skip
def C_hostlerlaw21ukinds : Table := tableOf []
theorem C_hostlerlaw21ukinds_ok {w0 : World} (hw : Base w0) : (C_hostlerlaw21ukinds).Ok w0 PP := TableOk.ok (w0 := w0) (P := PP) (l := []) trivial
theorem B_hostlerlaw21ukinds_ok : codeOk F_hostlerlaw21ukinds.ntmps B_hostlerlaw21ukinds = true := by kernel_rfl
def r_hostlerlaw21ukinds : AFn := fun args H K => match args with
| [] =>
  bnd (buildSl 1 10 [(0, (.str [])), (1, (.str [114, 117, 110])), (2, (.str [107, 105, 108, 108])), (3, (.str [115, 104, 117, 116])), (4, (.str [97, 99, 107])), (5, (.str [97, 115, 107])), (6, (.str [119, 101, 108, 99, 111, 109, 101])), (7, (.str [104, 101, 108, 108, 111])), (8, (.str [114, 101, 112, 111, 114, 116])), (9, (.str [103, 111, 110, 101]))]) fun t1u1 =>
  K t1u1 H
| _ => False
theorem r_hostlerlaw21ukinds_ok {w0 : World} (hw : Base w0) : FnOk w0 PP 39 (r_hostlerlaw21ukinds) := ⟨⟨F_hostlerlaw21ukinds, by kernel_rfl, by kernel_rfl, by kernel_rfl⟩, sound_of_pt (fn := F_hostlerlaw21ukinds) (body := B_hostlerlaw21ukinds) (n := 0) (by kernel_rfl) (by kernel_rfl)
  (fun args H K h => by unfold r_hostlerlaw21ukinds at h; split at h; rfl; exact h.elim) fun K => Pt.walk_eq (p := []) (ct := C_hostlerlaw21ukinds) (tab := [])
    (C_hostlerlaw21ukinds_ok hw) PP_mixed B_hostlerlaw21ukinds_ok trivial (by kernel_rfl)⟩

abbrev k_hostlerlaw21uNumber : Nat := 10
-- hostler/hostlerlaw21.Number
noncomputable abbrev F_hostlerlaw21uNumber : Func := Go.Proofs.Tryz.f10
noncomputable def B_hostlerlaw21uNumber : Code := (F_hostlerlaw21uNumber.body).getD .skip
def C_hostlerlaw21uNumber : Table := tableOf []
theorem C_hostlerlaw21uNumber_ok {w0 : World} (hw : Base w0) : (C_hostlerlaw21uNumber).Ok w0 PP := TableOk.ok (w0 := w0) (P := PP) (l := []) trivial
theorem B_hostlerlaw21uNumber_ok : codeOk F_hostlerlaw21uNumber.ntmps B_hostlerlaw21uNumber = true := by kernel_rfl
def r_hostlerlaw21uNumber_p244 (K : AV → AH → Prop) (Y244 : List AV → AH → Prop) (s : List AV) (H : AH) : Prop := match s with
| [t0, t4, t5] =>
  bnd (lenStr t0) fun t26u45 =>
  bnd (abin PP .lss 3 t5 t26u45) fun t27u46 =>
  branch t27u46 (
  bnd (idxStr t0 t5) fun t32u47 =>
  bnd (abin PP .lss 5 t32u47 (.int .u8 48)) fun t33u48 =>
  aguard (gwant false t33u48) (fun k_51 =>
  k_51 t0 H) H fun t35u49 H_50 =>
  aguard (gwant false t33u48) (fun k_54 =>
  k_54 t5 H_50) H_50 fun t36u52 H_53 =>
  aguard (gwant false t33u48) (fun k_57 =>
  bnd (idxStr t35u49 t36u52) fun t37u58 =>
  k_57 t37u58 H_53) H_53 fun t37u55 H_56 =>
  aguard (gwant false t33u48) (fun k_61 =>
  bnd (abin PP .gtr 5 t37u55 (.int .u8 57)) fun t38u62 =>
  k_61 t38u62 H_56) H_56 fun t38u59 H_60 =>
  bnd (pickV t33u48 (.bool true) t38u59) fun t39u63 =>
  branch t39u63 (
  K (.tup [(.int .i64 0), (.bool false)]) H_60) (
  bnd (abin PP .mul 3 (.int .i64 10) t4) fun t41u64 =>
  bnd (idxStr t0 t5) fun t44u65 =>
  bnd (abin PP .sub 5 t44u65 (.int .u8 48)) fun t45u66 =>
  bnd (convR (.int .u8) (.int .i64) t45u66) fun t46u67 =>
  bnd (abin PP .add 3 t41u64 t46u67) fun t47u68 =>
  bnd (abin PP .add 3 t5 (.int .i64 1)) fun t29u69 =>
  Y244 [t0, t47u68, t29u69] H_60)) (
  K (.tup [t4, (.bool true)]) H)
| _ => False
def r_hostlerlaw21uNumber : AFn := fun args H K => match args with
| [t0] =>
  bnd (lenStr t0) fun t7u1 =>
  bnd (abin PP .lss 3 t7u1 (.int .i64 1)) fun t8u2 =>
  aguard (gwant false t8u2) (fun k_5 =>
  k_5 t0 H) H fun t10u3 H_4 =>
  aguard (gwant false t8u2) (fun k_8 =>
  bnd (lenStr t10u3) fun t11u9 =>
  k_8 t11u9 H_4) H_4 fun t11u6 H_7 =>
  aguard (gwant false t8u2) (fun k_12 =>
  bnd (abin PP .gtr 3 t11u6 (.int .i64 9)) fun t12u13 =>
  k_12 t12u13 H_7) H_7 fun t12u10 H_11 =>
  bnd (pickV t8u2 (.bool true) t12u10) fun t13u14 =>
  aguard (gwant false t13u14) (fun k_17 =>
  k_17 t0 H_11) H_11 fun t15u15 H_16 =>
  aguard (gwant false t13u14) (fun k_20 =>
  bnd (idxStr t15u15 (.int .i64 0)) fun t16u21 =>
  k_20 t16u21 H_16) H_16 fun t16u18 H_19 =>
  aguard (gwant false t13u14) (fun k_24 =>
  bnd (abin PP .eql 5 t16u18 (.int .u8 48)) fun t17u25 =>
  k_24 t17u25 H_19) H_19 fun t17u22 H_23 =>
  aguard (gwant false t13u14) (fun k_28 =>
  k_28 t17u22 H_23) H_23 fun t18u26 H_27 =>
  aguard (gwant true t18u26) (fun k_31 =>
  k_31 t0 H_27) H_27 fun t19u29 H_30 =>
  aguard (gwant true t18u26) (fun k_34 =>
  bnd (lenStr t19u29) fun t20u35 =>
  k_34 t20u35 H_30) H_30 fun t20u32 H_33 =>
  aguard (gwant true t18u26) (fun k_38 =>
  bnd (abin PP .gtr 3 t20u32 (.int .i64 1)) fun t21u39 =>
  k_38 t21u39 H_33) H_33 fun t21u36 H_37 =>
  aguard (gwant false t13u14) (fun k_42 =>
  bnd (pickV t18u26 t21u36 (.bool false)) fun t22u43 =>
  k_42 t22u43 H_37) H_37 fun t22u40 H_41 =>
  bnd (pickV t13u14 (.bool true) t22u40) fun t23u44 =>
  branch t23u44 (
  K (.tup [(.int .i64 0), (.bool false)]) H_41) (
  LoopP (r_hostlerlaw21uNumber_p244 K) [t0, (.int .i64 0), (.int .i64 0)] H_41)
| _ => False
theorem s_hostlerlaw21uNumber_p244 {w0 : World} (hw : Base w0) {K : AV → AH → Prop} : Pt w0 PP F_hostlerlaw21uNumber F_hostlerlaw21uNumber.ntmps B_hostlerlaw21uNumber K 244 (fun ρ H => LoopP (r_hostlerlaw21uNumber_p244 K) [ρ 0, ρ 4, ρ 5] H) :=
  Pt.loop (st := fun ρ => [ρ 0, ρ 4, ρ 5]) fun Y244 h244 => Pt.walk_eq (p := [false, false, true, false, true, true, true]) (ct := C_hostlerlaw21uNumber) (tab := [(244, fun ρ H => Y244 [ρ 0, ρ 4, ρ 5] H)])
    (C_hostlerlaw21uNumber_ok hw) PP_mixed B_hostlerlaw21uNumber_ok ⟨h244, trivial⟩ (by kernel_rfl)
theorem r_hostlerlaw21uNumber_ok {w0 : World} (hw : Base w0) : FnOk w0 PP 10 (r_hostlerlaw21uNumber) := ⟨⟨F_hostlerlaw21uNumber, by kernel_rfl, by kernel_rfl, by kernel_rfl⟩, sound_of_pt (fn := F_hostlerlaw21uNumber) (body := B_hostlerlaw21uNumber) (n := 1) (by kernel_rfl) (by kernel_rfl)
  (fun args H K h => by unfold r_hostlerlaw21uNumber at h; split at h; rfl; exact h.elim) fun K => Pt.walk_eq (p := []) (ct := C_hostlerlaw21uNumber) (tab := [(244, fun ρ H => LoopP (r_hostlerlaw21uNumber_p244 K) [ρ 0, ρ 4, ρ 5] H)])
    (C_hostlerlaw21uNumber_ok hw) PP_mixed B_hostlerlaw21uNumber_ok ⟨s_hostlerlaw21uNumber_p244 hw, trivial⟩ (by kernel_rfl)⟩

abbrev k_hostlerlaw21uWords : Nat := 21
-- hostler/hostlerlaw21.Words
noncomputable abbrev F_hostlerlaw21uWords : Func := Go.Proofs.Tryz.f21
noncomputable def B_hostlerlaw21uWords : Code := (F_hostlerlaw21uWords.body).getD .skip
def C_hostlerlaw21uWords : Table := tableOf []
theorem C_hostlerlaw21uWords_ok {w0 : World} (hw : Base w0) : (C_hostlerlaw21uWords).Ok w0 PP := TableOk.ok (w0 := w0) (P := PP) (l := []) trivial
theorem B_hostlerlaw21uWords_ok : codeOk F_hostlerlaw21uWords.ntmps B_hostlerlaw21uWords = true := by kernel_rfl
def r_hostlerlaw21uWords_p979 (K : AV → AH → Prop) (Y244 : List AV → AH → Prop) (t0 : AV) (t3 : AV) (t4 : AV) (t5 : AV) (H : AH) : Prop :=
  bnd (abin PP .add 3 t5 (.int .i64 1)) fun t11u23 =>
  Y244 [t0, t3, t4, t11u23] H
def r_hostlerlaw21uWords_p7827 (K : AV → AH → Prop) (Y244 : List AV → AH → Prop) (t0 : AV) (t3 : AV) (t5 : AV) (H : AH) : Prop :=
  r_hostlerlaw21uWords_p979 K Y244 t0 t3 (.str []) t5 H
def r_hostlerlaw21uWords_p244 (K : AV → AH → Prop) (Y244 : List AV → AH → Prop) (s : List AV) (H : AH) : Prop := match s with
| [t0, t3, t4, t5] =>
  bnd (lenStr t0) fun t8u1 =>
  bnd (abin PP .leq 3 t5 t8u1) fun t9u2 =>
  branch t9u2 (
  bnd (lenStr t0) fun t14u3 =>
  bnd (abin PP .lss 3 t5 t14u3) fun t15u4 =>
  aguard (gwant true t15u4) (fun k_7 =>
  k_7 t0 H) H fun t17u5 H_6 =>
  aguard (gwant true t15u4) (fun k_10 =>
  k_10 t5 H_6) H_6 fun t18u8 H_9 =>
  aguard (gwant true t15u4) (fun k_13 =>
  bnd (idxStr t17u5 t18u8) fun t19u14 =>
  k_13 t19u14 H_9) H_9 fun t19u11 H_12 =>
  aguard (gwant true t15u4) (fun k_17 =>
  bnd (abin PP .neq 5 t19u11 (.int .u8 32)) fun t20u18 =>
  k_17 t20u18 H_12) H_12 fun t20u15 H_16 =>
  bnd (pickV t15u4 t20u15 (.bool false)) fun t21u19 =>
  branch t21u19 (
  bnd (abin PP .add 3 t5 (.int .i64 1)) fun t26u20 =>
  bnd (sliceStr t0 (some t5) (some t26u20) none) fun t27u21 =>
  bnd (abin PP .add 9 t4 t27u21) fun t28u22 =>
  r_hostlerlaw21uWords_p979 K Y244 t0 t3 t28u22 t5 H_16) (
  bnd (abin PP .neq 9 t4 (.str [])) fun t30u24 =>
  branch t30u24 (
  bnd (buildSl 1 1 [(0, t4)]) fun t33u25 =>
  appK 1 16 t3 t33u25 H_16 fun t34u26 H_27 =>
  r_hostlerlaw21uWords_p7827 K Y244 t0 t34u26 t5 H_27) (
  r_hostlerlaw21uWords_p7827 K Y244 t0 t3 t5 H_16))) (
  K t3 H)
| _ => False
def r_hostlerlaw21uWords : AFn := fun args H K => match args with
| [t0] =>
  LoopP (r_hostlerlaw21uWords_p244 K) [t0, (.nils), (.str []), (.int .i64 0)] H
| _ => False
theorem s_hostlerlaw21uWords_p979 {w0 : World} (hw : Base w0) {K : AV → AH → Prop} {Y244 : List AV → AH → Prop} (h244 : Pt w0 PP F_hostlerlaw21uWords F_hostlerlaw21uWords.ntmps B_hostlerlaw21uWords K 244 (fun ρ H => Y244 [ρ 0, ρ 3, ρ 4, ρ 5] H)) : Pt w0 PP F_hostlerlaw21uWords F_hostlerlaw21uWords.ntmps B_hostlerlaw21uWords K 979 (fun ρ H => r_hostlerlaw21uWords_p979 K Y244 (ρ 0) (ρ 3) (ρ 4) (ρ 5) H) :=
  Pt.walk_eq (p := [true, true, false, false, true, false, true, true, true]) (ct := C_hostlerlaw21uWords) (tab := [(244, fun ρ H => Y244 [ρ 0, ρ 3, ρ 4, ρ 5] H)])
    (C_hostlerlaw21uWords_ok hw) PP_mixed B_hostlerlaw21uWords_ok ⟨h244, trivial⟩ (by kernel_rfl)
theorem s_hostlerlaw21uWords_p7827 {w0 : World} (hw : Base w0) {K : AV → AH → Prop} {Y244 : List AV → AH → Prop} (h244 : Pt w0 PP F_hostlerlaw21uWords F_hostlerlaw21uWords.ntmps B_hostlerlaw21uWords K 244 (fun ρ H => Y244 [ρ 0, ρ 3, ρ 4, ρ 5] H)) : Pt w0 PP F_hostlerlaw21uWords F_hostlerlaw21uWords.ntmps B_hostlerlaw21uWords K 7827 (fun ρ H => r_hostlerlaw21uWords_p7827 K Y244 (ρ 0) (ρ 3) (ρ 5) H) :=
  Pt.walk_eq (p := [true, true, false, false, true, false, false, true, false, true, true, true]) (ct := C_hostlerlaw21uWords) (tab := [(244, fun ρ H => Y244 [ρ 0, ρ 3, ρ 4, ρ 5] H), (979, fun ρ H => r_hostlerlaw21uWords_p979 K Y244 (ρ 0) (ρ 3) (ρ 4) (ρ 5) H)])
    (C_hostlerlaw21uWords_ok hw) PP_mixed B_hostlerlaw21uWords_ok ⟨h244, s_hostlerlaw21uWords_p979 hw h244, trivial⟩ (by kernel_rfl)
theorem s_hostlerlaw21uWords_p244 {w0 : World} (hw : Base w0) {K : AV → AH → Prop} : Pt w0 PP F_hostlerlaw21uWords F_hostlerlaw21uWords.ntmps B_hostlerlaw21uWords K 244 (fun ρ H => LoopP (r_hostlerlaw21uWords_p244 K) [ρ 0, ρ 3, ρ 4, ρ 5] H) :=
  Pt.loop (st := fun ρ => [ρ 0, ρ 3, ρ 4, ρ 5]) fun Y244 h244 => Pt.walk_eq (p := [false, false, true, false, true, true, true]) (ct := C_hostlerlaw21uWords) (tab := [(244, fun ρ H => Y244 [ρ 0, ρ 3, ρ 4, ρ 5] H), (979, fun ρ H => r_hostlerlaw21uWords_p979 K Y244 (ρ 0) (ρ 3) (ρ 4) (ρ 5) H), (7827, fun ρ H => r_hostlerlaw21uWords_p7827 K Y244 (ρ 0) (ρ 3) (ρ 5) H)])
    (C_hostlerlaw21uWords_ok hw) PP_mixed B_hostlerlaw21uWords_ok ⟨h244, s_hostlerlaw21uWords_p979 hw h244, s_hostlerlaw21uWords_p7827 hw h244, trivial⟩ (by kernel_rfl)
theorem r_hostlerlaw21uWords_ok {w0 : World} (hw : Base w0) : FnOk w0 PP 21 (r_hostlerlaw21uWords) := ⟨⟨F_hostlerlaw21uWords, by kernel_rfl, by kernel_rfl, by kernel_rfl⟩, sound_of_pt (fn := F_hostlerlaw21uWords) (body := B_hostlerlaw21uWords) (n := 1) (by kernel_rfl) (by kernel_rfl)
  (fun args H K h => by unfold r_hostlerlaw21uWords at h; split at h; rfl; exact h.elim) fun K => Pt.walk_eq (p := []) (ct := C_hostlerlaw21uWords) (tab := [(244, fun ρ H => LoopP (r_hostlerlaw21uWords_p244 K) [ρ 0, ρ 3, ρ 4, ρ 5] H)])
    (C_hostlerlaw21uWords_ok hw) PP_mixed B_hostlerlaw21uWords_ok ⟨s_hostlerlaw21uWords_p244 hw, trivial⟩ (by kernel_rfl)⟩

abbrev k_hostlerlaw21ulines : Nat := 20
-- hostler/hostlerlaw21.lines
noncomputable abbrev F_hostlerlaw21ulines : Func := Go.Proofs.Tryz.f20
noncomputable def B_hostlerlaw21ulines : Code := (F_hostlerlaw21ulines.body).getD .skip
def C_hostlerlaw21ulines : Table := tableOf []
theorem C_hostlerlaw21ulines_ok {w0 : World} (hw : Base w0) : (C_hostlerlaw21ulines).Ok w0 PP := TableOk.ok (w0 := w0) (P := PP) (l := []) trivial
theorem B_hostlerlaw21ulines_ok : codeOk F_hostlerlaw21ulines.ntmps B_hostlerlaw21ulines = true := by kernel_rfl
def r_hostlerlaw21ulines_p3624 (K : AV → AH → Prop) (Y56 : List AV → AH → Prop) (Y3624 : List AV → AH → Prop) (s : List AV) (H : AH) : Prop := match s with
| [t0, t3, t4] =>
  bnd (lenStr t0) fun t10u3 =>
  bnd (abin PP .lss 3 t4 t10u3) fun t11u4 =>
  aguard (gwant true t11u4) (fun k_7 =>
  k_7 t0 H) H fun t13u5 H_6 =>
  aguard (gwant true t11u4) (fun k_10 =>
  k_10 t4 H_6) H_6 fun t14u8 H_9 =>
  aguard (gwant true t11u4) (fun k_13 =>
  bnd (idxStr t13u5 t14u8) fun t15u14 =>
  k_13 t15u14 H_9) H_9 fun t15u11 H_12 =>
  aguard (gwant true t11u4) (fun k_17 =>
  bnd (abin PP .neq 5 t15u11 (.int .u8 10)) fun t16u18 =>
  k_17 t16u18 H_12) H_12 fun t16u15 H_16 =>
  bnd (pickV t11u4 t16u15 (.bool false)) fun t17u19 =>
  branch t17u19 (
  bnd (abin PP .add 3 t4 (.int .i64 1)) fun t19u20 =>
  Y3624 [t0, t3, t19u20] H_16) (
  bnd (sliceStr t0 none (some t4) none) fun t23u21 =>
  bnd (buildSl 1 1 [(0, t23u21)]) fun t24u22 =>
  appK 1 16 t3 t24u22 H_16 fun t25u23 H_24 =>
  bnd (abin PP .add 3 t4 (.int .i64 1)) fun t28u25 =>
  bnd (lenStr t0) fun t30u26 =>
  bnd (amin2 t28u25 t30u26) fun t31u27 =>
  bnd (sliceStr t0 (some t31u27) none none) fun t32u28 =>
  Y56 [t32u28, t25u23] H_24)
| _ => False
def r_hostlerlaw21ulines_p56 (K : AV → AH → Prop) (Y56 : List AV → AH → Prop) (s : List AV) (H : AH) : Prop := match s with
| [t0, t3] =>
  bnd (lenStr t0) fun t6u1 =>
  bnd (abin PP .gtr 3 t6u1 (.int .i64 0)) fun t7u2 =>
  branch t7u2 (
  LoopP (r_hostlerlaw21ulines_p3624 K Y56) [t0, t3, (.int .i64 0)] H) (
  K t3 H)
| _ => False
def r_hostlerlaw21ulines : AFn := fun args H K => match args with
| [t0] =>
  LoopP (r_hostlerlaw21ulines_p56 K) [t0, (.nils)] H
| _ => False
theorem s_hostlerlaw21ulines_p3624 {w0 : World} (hw : Base w0) {K : AV → AH → Prop} {Y56 : List AV → AH → Prop} (h56 : Pt w0 PP F_hostlerlaw21ulines F_hostlerlaw21ulines.ntmps B_hostlerlaw21ulines K 56 (fun ρ H => Y56 [ρ 0, ρ 3] H)) : Pt w0 PP F_hostlerlaw21ulines F_hostlerlaw21ulines.ntmps B_hostlerlaw21ulines K 3624 (fun ρ H => LoopP (r_hostlerlaw21ulines_p3624 K Y56) [ρ 0, ρ 3, ρ 4] H) :=
  Pt.loop (st := fun ρ => [ρ 0, ρ 3, ρ 4]) fun Y3624 h3624 => Pt.walk_eq (p := [false, false, false, true, false, true, false, false, false, true, true]) (ct := C_hostlerlaw21ulines) (tab := [(3624, fun ρ H => Y3624 [ρ 0, ρ 3, ρ 4] H), (56, fun ρ H => Y56 [ρ 0, ρ 3] H)])
    (C_hostlerlaw21ulines_ok hw) PP_mixed B_hostlerlaw21ulines_ok ⟨h3624, h56, trivial⟩ (by kernel_rfl)
theorem s_hostlerlaw21ulines_p56 {w0 : World} (hw : Base w0) {K : AV → AH → Prop} : Pt w0 PP F_hostlerlaw21ulines F_hostlerlaw21ulines.ntmps B_hostlerlaw21ulines K 56 (fun ρ H => LoopP (r_hostlerlaw21ulines_p56 K) [ρ 0, ρ 3] H) :=
  Pt.loop (st := fun ρ => [ρ 0, ρ 3]) fun Y56 h56 => Pt.walk_eq (p := [false, false, false, true, true]) (ct := C_hostlerlaw21ulines) (tab := [(56, fun ρ H => Y56 [ρ 0, ρ 3] H), (3624, fun ρ H => LoopP (r_hostlerlaw21ulines_p3624 K Y56) [ρ 0, ρ 3, ρ 4] H)])
    (C_hostlerlaw21ulines_ok hw) PP_mixed B_hostlerlaw21ulines_ok ⟨h56, s_hostlerlaw21ulines_p3624 hw h56, trivial⟩ (by kernel_rfl)
theorem r_hostlerlaw21ulines_ok {w0 : World} (hw : Base w0) : FnOk w0 PP 20 (r_hostlerlaw21ulines) := ⟨⟨F_hostlerlaw21ulines, by kernel_rfl, by kernel_rfl, by kernel_rfl⟩, sound_of_pt (fn := F_hostlerlaw21ulines) (body := B_hostlerlaw21ulines) (n := 1) (by kernel_rfl) (by kernel_rfl)
  (fun args H K h => by unfold r_hostlerlaw21ulines at h; split at h; rfl; exact h.elim) fun K => Pt.walk_eq (p := []) (ct := C_hostlerlaw21ulines) (tab := [(56, fun ρ H => LoopP (r_hostlerlaw21ulines_p56 K) [ρ 0, ρ 3] H)])
    (C_hostlerlaw21ulines_ok hw) PP_mixed B_hostlerlaw21ulines_ok ⟨s_hostlerlaw21ulines_p56 hw, trivial⟩ (by kernel_rfl)⟩

abbrev k_hostlerlaw21uStep : Nat := 22
-- hostler/hostlerlaw21.Step
noncomputable abbrev F_hostlerlaw21uStep : Func := Go.Proofs.Tryz.f22
noncomputable def B_hostlerlaw21uStep : Code := (F_hostlerlaw21uStep.body).getD .skip
def C_hostlerlaw21uStep : Table := tableOf [(10, r_hostlerlaw21uNumber), (39, r_hostlerlaw21ukinds), (40, r_hostlerref01uFields), (41, r_hostlerref01uCheck)]
theorem C_hostlerlaw21uStep_ok {w0 : World} (hw : Base w0) : (C_hostlerlaw21uStep).Ok w0 PP := TableOk.ok (w0 := w0) (P := PP) (l := [(10, r_hostlerlaw21uNumber), (39, r_hostlerlaw21ukinds), (40, r_hostlerref01uFields), (41, r_hostlerref01uCheck)]) ⟨(r_hostlerlaw21uNumber_ok hw).call, (r_hostlerlaw21ukinds_ok hw).call, (r_hostlerref01uFields_ok hw).call, (r_hostlerref01uCheck_ok hw).call, trivial⟩
theorem B_hostlerlaw21uStep_ok : codeOk F_hostlerlaw21uStep.ntmps B_hostlerlaw21uStep = true := by kernel_rfl
def r_hostlerlaw21uStep_p4004 (K : AV → AH → Prop) (Y4004 : List AV → AH → Prop) (s : List AV) (H : AH) : Prop := match s with
| [t0, t2, t4, t5, t45, t46, t47] =>
  bnd (abin PP .lss 3 t47 t46) fun t48u49 =>
  branch t48u49 (
  bnd (idxA 1 t45 t47) fun t49u50 =>
  bnd (ld1 t49u50 H) fun t50u51 =>
  r_hostlerlaw21uNumber [t50u51] H fun t53u52 H_53 =>
  bnd (aextract t53u52 0) fun t54u54 =>
  bnd (aextract t53u52 1) fun t55u55 =>
  bnd (aun .not t55u55) fun t57u56 =>
  branch t57u56 (
  bnd (ldN 12 t4 H_53) fun t58u57 =>
  bnd (ast 12 t2 t58u57 H_53) fun H_58 =>
  bnd (ldN 12 t2 H_58) fun v_59 =>
  K (.tup [v_59, (.bool false)]) H_58) (
  bnd (buildSl 1 1 [(0, t54u54)]) fun t61u60 =>
  appK 1 8 t5 t61u60 H_53 fun t62u61 H_62 =>
  bnd (abin PP .add 3 t47 (.int .i64 1)) fun t63u63 =>
  Y4004 [t0, t2, t4, t62u61, t45, t46, t63u63] H_62)) (
  bnd (idxA 1 t0 (.int .i64 0)) fun t66u64 =>
  bnd (ld1 t66u64 H) fun t67u65 =>
  bnd (abin PP .eql 9 t67u65 (.str [116, 105, 99, 107])) fun t68u66 =>
  aguard (gwant true t68u66) (fun k_69 =>
  k_69 t5 H) H fun t70u67 H_68 =>
  aguard (gwant true t68u66) (fun k_72 =>
  bnd (lenSl t70u67) fun t71u73 =>
  k_72 t71u73 H_68) H_68 fun t71u70 H_71 =>
  aguard (gwant true t68u66) (fun k_76 =>
  bnd (abin PP .eql 3 t71u70 (.int .i64 1)) fun t72u77 =>
  k_76 t72u77 H_71) H_71 fun t72u74 H_75 =>
  bnd (pickV t68u66 t72u74 (.bool false)) fun t73u78 =>
  branch t73u78 (
  bnd (idxA 1 t5 (.int .i64 0)) fun t75u79 =>
  bnd (ld1 t75u79 H_75) fun t76u80 =>
  bnd (astruct [(0, 1), (1, 9), (10, 1), (11, 1)] [.int .i64 0, .int .i64 0, .str [], .str [], .str [], .int .i64 0, .int .i64 0, .int .i64 0, .int .i64 0, .nils, .int .i64 0, .int .i64 0] [(0, (.int .i64 2)), (2, t76u80)]) fun t77u81 =>
  bnd (ast 12 t2 t77u81 H_75) fun H_82 =>
  bnd (ldN 12 t2 H_82) fun v_83 =>
  K (.tup [v_83, (.bool true)]) H_82) (
  bnd (idxA 1 t0 (.int .i64 0)) fun t80u84 =>
  bnd (ld1 t80u84 H_75) fun t81u85 =>
  bnd (abin PP .eql 9 t81u85 (.str [102, 117, 115, 101])) fun t82u86 =>
  aguard (gwant true t82u86) (fun k_89 =>
  k_89 t5 H_75) H_75 fun t84u87 H_88 =>
  aguard (gwant true t82u86) (fun k_92 =>
  bnd (lenSl t84u87) fun t85u93 =>
  k_92 t85u93 H_88) H_88 fun t85u90 H_91 =>
  aguard (gwant true t82u86) (fun k_96 =>
  bnd (abin PP .eql 3 t85u90 (.int .i64 1)) fun t86u97 =>
  k_96 t86u97 H_91) H_91 fun t86u94 H_95 =>
  bnd (pickV t82u86 t86u94 (.bool false)) fun t87u98 =>
  branch t87u98 (
  bnd (idxA 1 t5 (.int .i64 0)) fun t89u99 =>
  bnd (ld1 t89u99 H_95) fun t90u100 =>
  bnd (astruct [(0, 1), (1, 9), (10, 1), (11, 1)] [.int .i64 0, .int .i64 0, .str [], .str [], .str [], .int .i64 0, .int .i64 0, .int .i64 0, .int .i64 0, .nils, .int .i64 0, .int .i64 0] [(0, (.int .i64 3)), (2, t90u100)]) fun t91u101 =>
  bnd (ast 12 t2 t91u101 H_95) fun H_102 =>
  bnd (ldN 12 t2 H_102) fun v_103 =>
  K (.tup [v_103, (.bool true)]) H_102) (
  bnd (idxA 1 t0 (.int .i64 0)) fun t94u104 =>
  bnd (ld1 t94u104 H_95) fun t95u105 =>
  bnd (abin PP .eql 9 t95u105 (.str [99, 114, 97, 115, 104])) fun t96u106 =>
  aguard (gwant true t96u106) (fun k_109 =>
  k_109 t5 H_95) H_95 fun t98u107 H_108 =>
  aguard (gwant true t96u106) (fun k_112 =>
  bnd (lenSl t98u107) fun t99u113 =>
  k_112 t99u113 H_108) H_108 fun t99u110 H_111 =>
  aguard (gwant true t96u106) (fun k_116 =>
  bnd (abin PP .eql 3 t99u110 (.int .i64 1)) fun t100u117 =>
  k_116 t100u117 H_111) H_111 fun t100u114 H_115 =>
  bnd (pickV t96u106 t100u114 (.bool false)) fun t101u118 =>
  branch t101u118 (
  bnd (idxA 1 t5 (.int .i64 0)) fun t103u119 =>
  bnd (ld1 t103u119 H_115) fun t104u120 =>
  bnd (astruct [(0, 1), (1, 9), (10, 1), (11, 1)] [.int .i64 0, .int .i64 0, .str [], .str [], .str [], .int .i64 0, .int .i64 0, .int .i64 0, .int .i64 0, .nils, .int .i64 0, .int .i64 0] [(0, (.int .i64 4)), (2, t104u120), (3, (.int .i64 (-1)))]) fun t105u121 =>
  bnd (ast 12 t2 t105u121 H_115) fun H_122 =>
  bnd (ldN 12 t2 H_122) fun v_123 =>
  K (.tup [v_123, (.bool true)]) H_122) (
  bnd (idxA 1 t0 (.int .i64 0)) fun t108u124 =>
  bnd (ld1 t108u124 H_115) fun t109u125 =>
  bnd (abin PP .eql 9 t109u125 (.str [99, 114, 97, 115, 104])) fun t110u126 =>
  aguard (gwant true t110u126) (fun k_129 =>
  k_129 t5 H_115) H_115 fun t112u127 H_128 =>
  aguard (gwant true t110u126) (fun k_132 =>
  bnd (lenSl t112u127) fun t113u133 =>
  k_132 t113u133 H_128) H_128 fun t113u130 H_131 =>
  aguard (gwant true t110u126) (fun k_136 =>
  bnd (abin PP .eql 3 t113u130 (.int .i64 2)) fun t114u137 =>
  k_136 t114u137 H_131) H_131 fun t114u134 H_135 =>
  bnd (pickV t110u126 t114u134 (.bool false)) fun t115u138 =>
  branch t115u138 (
  bnd (idxA 1 t5 (.int .i64 0)) fun t117u139 =>
  bnd (ld1 t117u139 H_135) fun t118u140 =>
  bnd (idxA 1 t5 (.int .i64 1)) fun t120u141 =>
  bnd (ld1 t120u141 H_135) fun t121u142 =>
  bnd (astruct [(0, 1), (1, 9), (10, 1), (11, 1)] [.int .i64 0, .int .i64 0, .str [], .str [], .str [], .int .i64 0, .int .i64 0, .int .i64 0, .int .i64 0, .nils, .int .i64 0, .int .i64 0] [(0, (.int .i64 4)), (2, t118u140), (3, t121u142)]) fun t122u143 =>
  bnd (ast 12 t2 t122u143 H_135) fun H_144 =>
  bnd (ldN 12 t2 H_144) fun v_145 =>
  K (.tup [v_145, (.bool true)]) H_144) (
  bnd (ldN 12 t4 H_135) fun t123u146 =>
  bnd (ast 12 t2 t123u146 H_135) fun H_147 =>
  bnd (ldN 12 t2 H_147) fun v_148 =>
  K (.tup [v_148, (.bool false)]) H_147)))))
| _ => False
def r_hostlerlaw21uStep_p16295 (K : AV → AH → Prop) (Y2036 : List AV → AH → Prop) (t0 : AV) (t2 : AV) (t4 : AV) (t10 : AV) (t125 : AV) (t126 : AV) (t127 : AV) (H : AH) : Prop :=
  bnd (abin PP .add 3 t127 (.int .i64 1)) fun t143u181 =>
  Y2036 [t0, t2, t4, t10, t125, t126, t143u181] H
def r_hostlerlaw21uStep_p130983 (K : AV → AH → Prop) (Y16372 : List AV → AH → Prop) (t2 : AV) (t4 : AV) (t10 : AV) (t13 : AV) (t153 : AV) (t154 : AV) (t155 : AV) (H : AH) : Prop :=
  bnd (abin PP .add 3 t155 (.int .i64 1)) fun t264u258 =>
  Y16372 [t2, t4, t10, t13, t153, t154, t264u258] H
def r_hostlerlaw21uStep_p33531472 (K : AV → AH → Prop) (Y16372 : List AV → AH → Prop) (Y33531472 : List AV → AH → Prop) (s : List AV) (H : AH) : Prop := match s with
| [t2, t4, t10, t13, t153, t154, t155] =>
  bnd (lenSl t13) fun t162u199 =>
  bnd (abin PP .gtr 3 t162u199 (.int .i64 0)) fun t163u200 =>
  branch t163u200 (
  bnd (aoff 0 t10) fun t164u201 =>
  bnd (ld1 t164u201 H) fun t165u202 =>
  bnd (abin PP .eql 3 t165u202 (.int .i64 5)) fun t166u203 =>
  branch t166u203 (
  bnd (aoff 8 t10) fun t167u204 =>
  bnd (ld1 t167u204 H) fun t168u205 =>
  bnd (idxA 1 t13 (.int .i64 0)) fun t170u206 =>
  bnd (ld1 t170u206 H) fun t171u207 =>
  bnd (astruct [(0, 1), (1, 1)] [.str [], .cplx .f64 0 0] [(0, t171u207)]) fun t172u208 =>
  bnd (buildSl 2 1 [(0, t172u208)]) fun t173u209 =>
  bnd (sliceSl 1 t13 (some (.int .i64 1)) none none) fun t176u210 =>
  appK 2 32 t168u205 t173u209 H fun t174u211 H_212 =>
  bnd (aoff 8 t10) fun t177u213 =>
  bnd (ast 1 t177u213 t174u211 H_212) fun H_214 =>
  Y33531472 [t2, t4, t10, t176u210, t153, t154, t155] H_214) (
  bnd (lenSl t13) fun t179u215 =>
  bnd (abin PP .lss 3 t179u215 (.int .i64 3)) fun t180u216 =>
  branch t180u216 (
  bnd (ldN 12 t4 H) fun t181u217 =>
  bnd (ast 12 t2 t181u217 H) fun H_218 =>
  bnd (ldN 12 t2 H_218) fun v_219 =>
  K (.tup [v_219, (.bool false)]) H_218) (
  bnd (idxA 1 t13 (.int .i64 1)) fun t184u220 =>
  bnd (ld1 t184u220 H) fun t185u221 =>
  r_hostlerlaw21uNumber [t185u221] H fun t186u222 H_223 =>
  bnd (aextract t186u222 0) fun t187u224 =>
  bnd (aextract t186u222 1) fun t188u225 =>
  bnd (idxA 1 t13 (.int .i64 2)) fun t191u226 =>
  bnd (ld1 t191u226 H_223) fun t192u227 =>
  r_hostlerlaw21uNumber [t192u227] H_223 fun t193u228 H_229 =>
  bnd (aextract t193u228 0) fun t194u230 =>
  bnd (aextract t193u228 1) fun t195u231 =>
  bnd (aun .not t188u225) fun t197u232 =>
  aguard (gwant false t197u232) (fun k_235 =>
  k_235 t195u231 H_229) H_229 fun t199u233 H_234 =>
  aguard (gwant false t197u232) (fun k_238 =>
  bnd (aun .not t199u233) fun t200u239 =>
  k_238 t200u239 H_234) H_234 fun t200u236 H_237 =>
  bnd (pickV t197u232 (.bool true) t200u236) fun t201u240 =>
  branch t201u240 (
  bnd (ldN 12 t4 H_237) fun t202u241 =>
  bnd (ast 12 t2 t202u241 H_237) fun H_242 =>
  bnd (ldN 12 t2 H_242) fun v_243 =>
  K (.tup [v_243, (.bool false)]) H_242) (
  bnd (aoff 8 t10) fun t203u244 =>
  bnd (ld1 t203u244 H_237) fun t204u245 =>
  bnd (idxA 1 t13 (.int .i64 0)) fun t206u246 =>
  bnd (ld1 t206u246 H_237) fun t207u247 =>
  bnd (convR (.int .i64) (.float .f64) t187u224) fun t209u248 =>
  bnd (convR (.int .i64) (.float .f64) t194u230) fun t211u249 =>
  bnd (acplx t209u248 t211u249) fun t212u250 =>
  bnd (astruct [(0, 1), (1, 1)] [.str [], .cplx .f64 0 0] [(0, t207u247), (1, t212u250)]) fun t213u251 =>
  bnd (buildSl 2 1 [(0, t213u251)]) fun t214u252 =>
  bnd (sliceSl 1 t13 (some (.int .i64 3)) none none) fun t217u253 =>
  appK 2 32 t204u245 t214u252 H_237 fun t215u254 H_255 =>
  bnd (aoff 8 t10) fun t218u256 =>
  bnd (ast 1 t218u256 t215u254 H_255) fun H_257 =>
  Y33531472 [t2, t4, t10, t217u253, t153, t154, t155] H_257)))) (
  r_hostlerlaw21uStep_p130983 K Y16372 t2 t4 t10 t13 t153 t154 t155 H)
| _ => False
def r_hostlerlaw21uStep_p16372 (K : AV → AH → Prop) (Y16372 : List AV → AH → Prop) (s : List AV) (H : AH) : Prop := match s with
| [t2, t4, t10, t13, t153, t154, t155] =>
  bnd (abin PP .lss 3 t155 t154) fun t156u195 =>
  branch t156u195 (
  bnd (idxA 1 t153 t155) fun t157u196 =>
  bnd (ld1 t157u196 H) fun t158u197 =>
  bnd (abin PP .eql 5 t158u197 (.int .u8 73)) fun t160u198 =>
  branch t160u198 (
  LoopP (r_hostlerlaw21uStep_p33531472 K Y16372) [t2, t4, t10, t13, t153, t154, t155] H) (
  bnd (lenSl t13) fun t220u259 =>
  bnd (abin PP .eql 3 t220u259 (.int .i64 0)) fun t221u260 =>
  branch t221u260 (
  bnd (ldN 12 t4 H) fun t222u261 =>
  bnd (ast 12 t2 t222u261 H) fun H_262 =>
  bnd (ldN 12 t2 H_262) fun v_263 =>
  K (.tup [v_263, (.bool false)]) H_262) (
  bnd (idxA 1 t13 (.int .i64 0)) fun t224u264 =>
  bnd (ld1 t224u264 H) fun t225u265 =>
  bnd (sliceSl 1 t13 (some (.int .i64 1)) none none) fun t227u266 =>
  bnd (abin PP .eql 5 t158u197 (.int .u8 70)) fun t230u267 =>
  branch t230u267 (
  bnd (aoff 1 t10) fun t232u268 =>
  bnd (ast 1 t232u268 t225u265 H) fun H_269 =>
  r_hostlerlaw21uStep_p130983 K Y16372 t2 t4 t10 t227u266 t153 t154 t155 H_269) (
  bnd (abin PP .eql 5 t158u197 (.int .u8 69)) fun t234u270 =>
  branch t234u270 (
  bnd (aoff 2 t10) fun t236u271 =>
  bnd (ast 1 t236u271 t225u265 H) fun H_272 =>
  r_hostlerlaw21uStep_p130983 K Y16372 t2 t4 t10 t227u266 t153 t154 t155 H_272) (
  bnd (abin PP .eql 5 t158u197 (.int .u8 84)) fun t238u273 =>
  branch t238u273 (
  bnd (aoff 3 t10) fun t240u274 =>
  bnd (ast 1 t240u274 t225u265 H) fun H_275 =>
  r_hostlerlaw21uStep_p130983 K Y16372 t2 t4 t10 t227u266 t153 t154 t155 H_275) (
  r_hostlerlaw21uNumber [t225u265] H fun t243u276 H_277 =>
  bnd (aextract t243u276 0) fun t244u278 =>
  bnd (aextract t243u276 1) fun t245u279 =>
  bnd (aun .not t245u279) fun t247u280 =>
  branch t247u280 (
  bnd (ldN 12 t4 H_277) fun t248u281 =>
  bnd (ast 12 t2 t248u281 H_277) fun H_282 =>
  bnd (ldN 12 t2 H_282) fun v_283 =>
  K (.tup [v_283, (.bool false)]) H_282) (
  bnd (abin PP .eql 5 t158u197 (.int .u8 78)) fun t253u284 =>
  branch t253u284 (
  bnd (aoff 4 t10) fun t255u285 =>
  bnd (ast 1 t255u285 t244u278 H_277) fun H_286 =>
  r_hostlerlaw21uStep_p130983 K Y16372 t2 t4 t10 t227u266 t153 t154 t155 H_286) (
  bnd (abin PP .eql 5 t158u197 (.int .u8 83)) fun t257u287 =>
  branch t257u287 (
  bnd (aoff 5 t10) fun t259u288 =>
  bnd (ast 1 t259u288 t244u278 H_277) fun H_289 =>
  r_hostlerlaw21uStep_p130983 K Y16372 t2 t4 t10 t227u266 t153 t154 t155 H_289) (
  bnd (abin PP .eql 5 t158u197 (.int .u8 85)) fun t261u290 =>
  branch t261u290 (
  bnd (aoff 6 t10) fun t263u291 =>
  bnd (ast 1 t263u291 t244u278 H_277) fun H_292 =>
  r_hostlerlaw21uStep_p130983 K Y16372 t2 t4 t10 t227u266 t153 t154 t155 H_292) (
  bnd (aoff 7 t10) fun t251u293 =>
  bnd (ast 1 t251u293 t244u278 H_277) fun H_294 =>
  r_hostlerlaw21uStep_p130983 K Y16372 t2 t4 t10 t227u266 t153 t154 t155 H_294)))))))))) (
  bnd (lenSl t13) fun t266u295 =>
  bnd (abin PP .gtr 3 t266u295 (.int .i64 0)) fun t267u296 =>
  aguard (gwant false t267u296) (fun k_299 =>
  bnd (ldN 9 t10 H) fun t269u300 =>
  k_299 t269u300 H) H fun t269u297 H_298 =>
  aguard (gwant false t267u296) (fun k_303 =>
  r_hostlerref01uCheck [t269u297] H_298 fun t270u304 H_305 =>
  k_303 t270u304 H_305) H_298 fun t270u301 H_302 =>
  aguard (gwant false t267u296) (fun k_308 =>
  bnd (aun .not t270u301) fun t271u309 =>
  k_308 t271u309 H_302) H_302 fun t271u306 H_307 =>
  bnd (pickV t267u296 (.bool true) t271u306) fun t272u310 =>
  branch t272u310 (
  bnd (ldN 12 t4 H_307) fun t273u311 =>
  bnd (ast 12 t2 t273u311 H_307) fun H_312 =>
  bnd (ldN 12 t2 H_312) fun v_313 =>
  K (.tup [v_313, (.bool false)]) H_312) (
  bnd (ldN 9 t10 H_307) fun t274u314 =>
  bnd (astruct [(0, 1), (1, 9), (10, 1), (11, 1)] [.int .i64 0, .int .i64 0, .str [], .str [], .str [], .int .i64 0, .int .i64 0, .int .i64 0, .int .i64 0, .nils, .int .i64 0, .int .i64 0] [(0, (.int .i64 1)), (1, t274u314)]) fun t275u315 =>
  bnd (ast 12 t2 t275u315 H_307) fun H_316 =>
  bnd (ldN 12 t2 H_316) fun v_317 =>
  K (.tup [v_317, (.bool true)]) H_316))
| _ => False
def r_hostlerlaw21uStep_p2036 (K : AV → AH → Prop) (Y2036 : List AV → AH → Prop) (s : List AV) (H : AH) : Prop := match s with
| [t0, t2, t4, t10, t125, t126, t127] =>
  bnd (abin PP .lss 3 t127 t126) fun t128u156 =>
  branch t128u156 (
  bnd (idxA 1 t125 t127) fun t130u157 =>
  bnd (ld1 t130u157 H) fun t131u158 =>
  bnd (abin PP .gtr 3 t127 (.int .i64 0)) fun t133u159 =>
  aguard (gwant true t133u159) (fun k_162 =>
  k_162 t131u158 H) H fun t135u160 H_161 =>
  aguard (gwant true t133u159) (fun k_165 =>
  k_165 t0 H_161) H_161 fun t136u163 H_164 =>
  aguard (gwant true t133u159) (fun k_168 =>
  bnd (idxA 1 t136u163 (.int .i64 0)) fun t137u169 =>
  k_168 t137u169 H_164) H_164 fun t137u166 H_167 =>
  aguard (gwant true t133u159) (fun k_172 =>
  bnd (ld1 t137u166 H_167) fun t138u173 =>
  k_172 t138u173 H_167) H_167 fun t138u170 H_171 =>
  aguard (gwant true t133u159) (fun k_176 =>
  bnd (abin PP .eql 9 t135u160 t138u170) fun t139u177 =>
  k_176 t139u177 H_171) H_171 fun t139u174 H_175 =>
  bnd (pickV t133u159 t139u174 (.bool false)) fun t140u178 =>
  branch t140u178 (
  bnd (aoff 0 t10) fun t142u179 =>
  bnd (ast 1 t142u179 t127 H_175) fun H_180 =>
  r_hostlerlaw21uStep_p16295 K Y2036 t0 t2 t4 t10 t125 t126 t127 H_180) (
  r_hostlerlaw21uStep_p16295 K Y2036 t0 t2 t4 t10 t125 t126 t127 H_175)) (
  bnd (aoff 0 t10) fun t144u182 =>
  bnd (ld1 t144u182 H) fun t145u183 =>
  bnd (abin PP .eql 3 t145u183 (.int .i64 0)) fun t146u184 =>
  branch t146u184 (
  bnd (ldN 12 t4 H) fun t147u185 =>
  bnd (ast 12 t2 t147u185 H) fun H_186 =>
  bnd (ldN 12 t2 H_186) fun v_187 =>
  K (.tup [v_187, (.bool false)]) H_186) (
  bnd (sliceSl 1 t0 (some (.int .i64 1)) none none) fun t149u188 =>
  bnd (aoff 0 t10) fun t150u189 =>
  bnd (ld1 t150u189 H) fun t151u190 =>
  r_hostlerref01uFields [t151u190] H fun t152u191 H_192 =>
  bnd (strBytes t152u191) fun t153u193 =>
  bnd (lenSl t153u193) fun t154u194 =>
  LoopP (r_hostlerlaw21uStep_p16372 K) [t2, t4, t10, t149u188, t153u193, t154u194, (.int .i64 0)] H_192))
| _ => False
def r_hostlerlaw21uStep : AFn := fun args H K => match args with
| [t0] =>
(fun (t2u1 : AV) (H_2 : AH) =>
  bnd (astruct [(0, 1), (1, 9), (10, 1), (11, 1)] [.int .i64 0, .int .i64 0, .str [], .str [], .str [], .int .i64 0, .int .i64 0, .int .i64 0, .int .i64 0, .nils, .int .i64 0, .int .i64 0] []) fun t23u3 =>
(fun (t4u4 : AV) (H_5 : AH) =>
  bnd (ast 12 t4u4 t23u3 H_5) fun H_6 =>
  bnd (lenSl t0) fun t25u7 =>
  bnd (abin PP .eql 3 t25u7 (.int .i64 0)) fun t26u8 =>
  branch t26u8 (
  bnd (ldN 12 t4u4 H_6) fun t27u9 =>
  bnd (ast 12 t2u1 t27u9 H_6) fun H_10 =>
  bnd (ldN 12 t2u1 H_10) fun v_11 =>
  K (.tup [v_11, (.bool false)]) H_10) (
  bnd (idxA 1 t0 (.int .i64 0)) fun t29u12 =>
  bnd (ld1 t29u12 H_6) fun t30u13 =>
  bnd (abin PP .eql 9 t30u13 (.str [116, 105, 99, 107])) fun t31u14 =>
  aguard (gwant false t31u14) (fun k_17 =>
  k_17 t0 H_6) H_6 fun t33u15 H_16 =>
  aguard (gwant false t31u14) (fun k_20 =>
  bnd (idxA 1 t33u15 (.int .i64 0)) fun t34u21 =>
  k_20 t34u21 H_16) H_16 fun t34u18 H_19 =>
  aguard (gwant false t31u14) (fun k_24 =>
  bnd (ld1 t34u18 H_19) fun t35u25 =>
  k_24 t35u25 H_19) H_19 fun t35u22 H_23 =>
  aguard (gwant false t31u14) (fun k_28 =>
  bnd (abin PP .eql 9 t35u22 (.str [102, 117, 115, 101])) fun t36u29 =>
  k_28 t36u29 H_23) H_23 fun t36u26 H_27 =>
  bnd (pickV t31u14 (.bool true) t36u26) fun t37u30 =>
  aguard (gwant false t37u30) (fun k_33 =>
  k_33 t0 H_27) H_27 fun t39u31 H_32 =>
  aguard (gwant false t37u30) (fun k_36 =>
  bnd (idxA 1 t39u31 (.int .i64 0)) fun t40u37 =>
  k_36 t40u37 H_32) H_32 fun t40u34 H_35 =>
  aguard (gwant false t37u30) (fun k_40 =>
  bnd (ld1 t40u34 H_35) fun t41u41 =>
  k_40 t41u41 H_35) H_35 fun t41u38 H_39 =>
  aguard (gwant false t37u30) (fun k_44 =>
  bnd (abin PP .eql 9 t41u38 (.str [99, 114, 97, 115, 104])) fun t42u45 =>
  k_44 t42u45 H_39) H_39 fun t42u42 H_43 =>
  bnd (pickV t37u30 (.bool true) t42u42) fun t43u46 =>
  branch t43u46 (
  bnd (sliceSl 1 t0 (some (.int .i64 1)) none none) fun t45u47 =>
  bnd (lenSl t45u47) fun t46u48 =>
  LoopP (r_hostlerlaw21uStep_p4004 K) [t0, t2u1, t4u4, (.nils), t45u47, t46u48, (.int .i64 0)] H_43) (
  bnd (astruct [(0, 1), (1, 1), (2, 1), (3, 1), (4, 1), (5, 1), (6, 1), (7, 1), (8, 1)] [.int .i64 0, .str [], .str [], .str [], .int .i64 0, .int .i64 0, .int .i64 0, .int .i64 0, .nils] []) fun t124u149 =>
(fun (t10u150 : AV) (H_151 : AH) =>
  bnd (ast 9 t10u150 t124u149 H_151) fun H_152 =>
  r_hostlerlaw21ukinds [] H_152 fun t125u153 H_154 =>
  bnd (lenSl t125u153) fun t126u155 =>
  LoopP (r_hostlerlaw21uStep_p2036 K) [t0, t2u1, t4u4, t10u150, t125u153, t126u155, (.int .i64 0)] H_154) (.ptr H_43.next 0) (H_43.add (.cells [.int .i64 0, .str [], .str [], .str [], .int .i64 0, .int .i64 0, .int .i64 0, .int .i64 0, .nils]))))) (.ptr H_2.next 0) (H_2.add (.cells [.int .i64 0, .int .i64 0, .str [], .str [], .str [], .int .i64 0, .int .i64 0, .int .i64 0, .int .i64 0, .nils, .int .i64 0, .int .i64 0]))) (.ptr H.next 0) (H.add (.cells [.int .i64 0, .int .i64 0, .str [], .str [], .str [], .int .i64 0, .int .i64 0, .int .i64 0, .int .i64 0, .nils, .int .i64 0, .int .i64 0]))
| _ => False
theorem s_hostlerlaw21uStep_p4004 {w0 : World} (hw : Base w0) {K : AV → AH → Prop} : Pt w0 PP F_hostlerlaw21uStep F_hostlerlaw21uStep.ntmps B_hostlerlaw21uStep K 4004 (fun ρ H => LoopP (r_hostlerlaw21uStep_p4004 K) [ρ 0, ρ 2, ρ 4, ρ 5, ρ 45, ρ 46, ρ 47] H) :=
  Pt.loop (st := fun ρ => [ρ 0, ρ 2, ρ 4, ρ 5, ρ 45, ρ 46, ρ 47]) fun Y4004 h4004 => Pt.walk_eq (p := [false, false, true, false, false, true, false, true, true, true, true]) (ct := C_hostlerlaw21uStep) (tab := [(4004, fun ρ H => Y4004 [ρ 0, ρ 2, ρ 4, ρ 5, ρ 45, ρ 46, ρ 47] H)])
    (C_hostlerlaw21uStep_ok hw) PP_mixed B_hostlerlaw21uStep_ok ⟨h4004, trivial⟩ (by kernel_rfl)
theorem s_hostlerlaw21uStep_p16295 {w0 : World} (hw : Base w0) {K : AV → AH → Prop} {Y2036 : List AV → AH → Prop} (h2036 : Pt w0 PP F_hostlerlaw21uStep F_hostlerlaw21uStep.ntmps B_hostlerlaw21uStep K 2036 (fun ρ H => Y2036 [ρ 0, ρ 2, ρ 4, ρ 10, ρ 125, ρ 126, ρ 127] H)) : Pt w0 PP F_hostlerlaw21uStep F_hostlerlaw21uStep.ntmps B_hostlerlaw21uStep K 16295 (fun ρ H => r_hostlerlaw21uStep_p16295 K Y2036 (ρ 0) (ρ 2) (ρ 4) (ρ 10) (ρ 125) (ρ 126) (ρ 127) H) :=
  Pt.walk_eq (p := [true, true, true, false, false, true, false, true, true, true, true, true, true]) (ct := C_hostlerlaw21uStep) (tab := [(2036, fun ρ H => Y2036 [ρ 0, ρ 2, ρ 4, ρ 10, ρ 125, ρ 126, ρ 127] H)])
    (C_hostlerlaw21uStep_ok hw) PP_mixed B_hostlerlaw21uStep_ok ⟨h2036, trivial⟩ (by kernel_rfl)
theorem s_hostlerlaw21uStep_p130983 {w0 : World} (hw : Base w0) {K : AV → AH → Prop} {Y16372 : List AV → AH → Prop} (h16372 : Pt w0 PP F_hostlerlaw21uStep F_hostlerlaw21uStep.ntmps B_hostlerlaw21uStep K 16372 (fun ρ H => Y16372 [ρ 2, ρ 4, ρ 10, ρ 13, ρ 153, ρ 154, ρ 155] H)) : Pt w0 PP F_hostlerlaw21uStep F_hostlerlaw21uStep.ntmps B_hostlerlaw21uStep K 130983 (fun ρ H => r_hostlerlaw21uStep_p130983 K Y16372 (ρ 2) (ρ 4) (ρ 10) (ρ 13) (ρ 153) (ρ 154) (ρ 155) H) :=
  Pt.walk_eq (p := [true, true, true, false, false, true, false, true, true, true, true, true, true, true, true, true]) (ct := C_hostlerlaw21uStep) (tab := [(16372, fun ρ H => Y16372 [ρ 2, ρ 4, ρ 10, ρ 13, ρ 153, ρ 154, ρ 155] H)])
    (C_hostlerlaw21uStep_ok hw) PP_mixed B_hostlerlaw21uStep_ok ⟨h16372, trivial⟩ (by kernel_rfl)
theorem s_hostlerlaw21uStep_p33531472 {w0 : World} (hw : Base w0) {K : AV → AH → Prop} {Y16372 : List AV → AH → Prop} (h16372 : Pt w0 PP F_hostlerlaw21uStep F_hostlerlaw21uStep.ntmps B_hostlerlaw21uStep K 16372 (fun ρ H => Y16372 [ρ 2, ρ 4, ρ 10, ρ 13, ρ 153, ρ 154, ρ 155] H)) : Pt w0 PP F_hostlerlaw21uStep F_hostlerlaw21uStep.ntmps B_hostlerlaw21uStep K 33531472 (fun ρ H => LoopP (r_hostlerlaw21uStep_p33531472 K Y16372) [ρ 2, ρ 4, ρ 10, ρ 13, ρ 153, ρ 154, ρ 155] H) :=
  Pt.loop (st := fun ρ => [ρ 2, ρ 4, ρ 10, ρ 13, ρ 153, ρ 154, ρ 155]) fun Y33531472 h33531472 => Pt.walk_eq (p := [false, false, false, false, true, false, true, false, false, true, true, false, false, true, false, true, true, true, true, true, true, true, true, true]) (ct := C_hostlerlaw21uStep) (tab := [(33531472, fun ρ H => Y33531472 [ρ 2, ρ 4, ρ 10, ρ 13, ρ 153, ρ 154, ρ 155] H), (16372, fun ρ H => Y16372 [ρ 2, ρ 4, ρ 10, ρ 13, ρ 153, ρ 154, ρ 155] H), (130983, fun ρ H => r_hostlerlaw21uStep_p130983 K Y16372 (ρ 2) (ρ 4) (ρ 10) (ρ 13) (ρ 153) (ρ 154) (ρ 155) H)])
    (C_hostlerlaw21uStep_ok hw) PP_mixed B_hostlerlaw21uStep_ok ⟨h33531472, h16372, s_hostlerlaw21uStep_p130983 hw h16372, trivial⟩ (by kernel_rfl)
theorem s_hostlerlaw21uStep_p16372 {w0 : World} (hw : Base w0) {K : AV → AH → Prop} : Pt w0 PP F_hostlerlaw21uStep F_hostlerlaw21uStep.ntmps B_hostlerlaw21uStep K 16372 (fun ρ H => LoopP (r_hostlerlaw21uStep_p16372 K) [ρ 2, ρ 4, ρ 10, ρ 13, ρ 153, ρ 154, ρ 155] H) :=
  Pt.loop (st := fun ρ => [ρ 2, ρ 4, ρ 10, ρ 13, ρ 153, ρ 154, ρ 155]) fun Y16372 h16372 => Pt.walk_eq (p := [false, false, true, false, true, true, true, true, true, true, true, true, true]) (ct := C_hostlerlaw21uStep) (tab := [(16372, fun ρ H => Y16372 [ρ 2, ρ 4, ρ 10, ρ 13, ρ 153, ρ 154, ρ 155] H), (130983, fun ρ H => r_hostlerlaw21uStep_p130983 K Y16372 (ρ 2) (ρ 4) (ρ 10) (ρ 13) (ρ 153) (ρ 154) (ρ 155) H), (33531472, fun ρ H => LoopP (r_hostlerlaw21uStep_p33531472 K Y16372) [ρ 2, ρ 4, ρ 10, ρ 13, ρ 153, ρ 154, ρ 155] H)])
    (C_hostlerlaw21uStep_ok hw) PP_mixed B_hostlerlaw21uStep_ok ⟨h16372, s_hostlerlaw21uStep_p130983 hw h16372, s_hostlerlaw21uStep_p33531472 hw h16372, trivial⟩ (by kernel_rfl)
theorem s_hostlerlaw21uStep_p2036 {w0 : World} (hw : Base w0) {K : AV → AH → Prop} : Pt w0 PP F_hostlerlaw21uStep F_hostlerlaw21uStep.ntmps B_hostlerlaw21uStep K 2036 (fun ρ H => LoopP (r_hostlerlaw21uStep_p2036 K) [ρ 0, ρ 2, ρ 4, ρ 10, ρ 125, ρ 126, ρ 127] H) :=
  Pt.loop (st := fun ρ => [ρ 0, ρ 2, ρ 4, ρ 10, ρ 125, ρ 126, ρ 127]) fun Y2036 h2036 => Pt.walk_eq (p := [false, false, true, false, true, true, true, true, true, true]) (ct := C_hostlerlaw21uStep) (tab := [(2036, fun ρ H => Y2036 [ρ 0, ρ 2, ρ 4, ρ 10, ρ 125, ρ 126, ρ 127] H), (16295, fun ρ H => r_hostlerlaw21uStep_p16295 K Y2036 (ρ 0) (ρ 2) (ρ 4) (ρ 10) (ρ 125) (ρ 126) (ρ 127) H), (16372, fun ρ H => LoopP (r_hostlerlaw21uStep_p16372 K) [ρ 2, ρ 4, ρ 10, ρ 13, ρ 153, ρ 154, ρ 155] H)])
    (C_hostlerlaw21uStep_ok hw) PP_mixed B_hostlerlaw21uStep_ok ⟨h2036, s_hostlerlaw21uStep_p16295 hw h2036, s_hostlerlaw21uStep_p16372 hw, trivial⟩ (by kernel_rfl)
theorem r_hostlerlaw21uStep_ok {w0 : World} (hw : Base w0) : FnOk w0 PP 22 (r_hostlerlaw21uStep) := ⟨⟨F_hostlerlaw21uStep, by kernel_rfl, by kernel_rfl, by kernel_rfl⟩, sound_of_pt (fn := F_hostlerlaw21uStep) (body := B_hostlerlaw21uStep) (n := 1) (by kernel_rfl) (by kernel_rfl)
  (fun args H K h => by unfold r_hostlerlaw21uStep at h; split at h; rfl; exact h.elim) fun K => Pt.walk_eq (p := []) (ct := C_hostlerlaw21uStep) (tab := [(2036, fun ρ H => LoopP (r_hostlerlaw21uStep_p2036 K) [ρ 0, ρ 2, ρ 4, ρ 10, ρ 125, ρ 126, ρ 127] H), (4004, fun ρ H => LoopP (r_hostlerlaw21uStep_p4004 K) [ρ 0, ρ 2, ρ 4, ρ 5, ρ 45, ρ 46, ρ 47] H)])
    (C_hostlerlaw21uStep_ok hw) PP_mixed B_hostlerlaw21uStep_ok ⟨s_hostlerlaw21uStep_p2036 hw, s_hostlerlaw21uStep_p4004 hw, trivial⟩ (by kernel_rfl)⟩

abbrev k_hostlerlaw21uParse : Nat := 7
-- hostler/hostlerlaw21.Parse
noncomputable abbrev F_hostlerlaw21uParse : Func := Go.Proofs.Tryz.f7
noncomputable def B_hostlerlaw21uParse : Code := (F_hostlerlaw21uParse.body).getD .skip
def C_hostlerlaw21uParse : Table := tableOf [(20, r_hostlerlaw21ulines), (21, r_hostlerlaw21uWords), (22, r_hostlerlaw21uStep)]
theorem C_hostlerlaw21uParse_ok {w0 : World} (hw : Base w0) : (C_hostlerlaw21uParse).Ok w0 PP := TableOk.ok (w0 := w0) (P := PP) (l := [(20, r_hostlerlaw21ulines), (21, r_hostlerlaw21uWords), (22, r_hostlerlaw21uStep)]) ⟨(r_hostlerlaw21ulines_ok hw).call, (r_hostlerlaw21uWords_ok hw).call, (r_hostlerlaw21uStep_ok hw).call, trivial⟩
theorem B_hostlerlaw21uParse_ok : codeOk F_hostlerlaw21uParse.ntmps B_hostlerlaw21uParse = true := by kernel_rfl
def r_hostlerlaw21uParse_p935 (K : AV → AH → Prop) (Y116 : List AV → AH → Prop) (t4 : AV) (t11 : AV) (t12 : AV) (t13 : AV) (H : AH) : Prop :=
  bnd (abin PP .add 3 t13 (.int .i64 1)) fun t33u11 =>
  Y116 [t4, t11, t12, t33u11] H
def r_hostlerlaw21uParse_p116 (K : AV → AH → Prop) (Y116 : List AV → AH → Prop) (s : List AV) (H : AH) : Prop := match s with
| [t4, t11, t12, t13] =>
  bnd (abin PP .lss 3 t13 t12) fun t14u4 =>
  branch t14u4 (
  bnd (idxA 1 t11 t13) fun t15u5 =>
  bnd (ld1 t15u5 H) fun t16u6 =>
  r_hostlerlaw21uWords [t16u6] H fun t18u7 H_8 =>
  bnd (lenSl t18u7) fun t20u9 =>
  bnd (abin PP .eql 3 t20u9 (.int .i64 0)) fun t21u10 =>
  branch t21u10 (
  r_hostlerlaw21uParse_p935 K Y116 t4 t11 t12 t13 H_8) (
  r_hostlerlaw21uStep [t18u7] H_8 fun t24u12 H_13 =>
  bnd (aextract t24u12 0) fun t25u14 =>
  bnd (aextract t24u12 1) fun t26u15 =>
(fun (t8u16 : AV) (H_17 : AH) =>
  bnd (ast 12 t8u16 t25u14 H_17) fun H_18 =>
  bnd (aun .not t26u15) fun t28u19 =>
  branch t28u19 (
  K (.tup [(.nils), (.bool false)]) H_18) (
  bnd (ldN 12 t8u16 H_18) fun t30u20 =>
  bnd (buildSl 12 1 [(0, t30u20)]) fun t31u21 =>
  appK 12 136 t4 t31u21 H_18 fun t32u22 H_23 =>
  r_hostlerlaw21uParse_p935 K Y116 t32u22 t11 t12 t13 H_23)) (.ptr H_13.next 0) (H_13.add (.cells [.int .i64 0, .int .i64 0, .str [], .str [], .str [], .int .i64 0, .int .i64 0, .int .i64 0, .int .i64 0, .nils, .int .i64 0, .int .i64 0])))) (
  K (.tup [t4, (.bool true)]) H)
| _ => False
def r_hostlerlaw21uParse : AFn := fun args H K => match args with
| [t0] =>
  r_hostlerlaw21ulines [t0] H fun t11u1 H_2 =>
  bnd (lenSl t11u1) fun t12u3 =>
  LoopP (r_hostlerlaw21uParse_p116 K) [(.nils), t11u1, t12u3, (.int .i64 0)] H_2
| _ => False
theorem s_hostlerlaw21uParse_p935 {w0 : World} (hw : Base w0) {K : AV → AH → Prop} {Y116 : List AV → AH → Prop} (h116 : Pt w0 PP F_hostlerlaw21uParse F_hostlerlaw21uParse.ntmps B_hostlerlaw21uParse K 116 (fun ρ H => Y116 [ρ 4, ρ 11, ρ 12, ρ 13] H)) : Pt w0 PP F_hostlerlaw21uParse F_hostlerlaw21uParse.ntmps B_hostlerlaw21uParse K 935 (fun ρ H => r_hostlerlaw21uParse_p935 K Y116 (ρ 4) (ρ 11) (ρ 12) (ρ 13) H) :=
  Pt.walk_eq (p := [true, true, true, false, false, true, false, true, true]) (ct := C_hostlerlaw21uParse) (tab := [(116, fun ρ H => Y116 [ρ 4, ρ 11, ρ 12, ρ 13] H)])
    (C_hostlerlaw21uParse_ok hw) PP_mixed B_hostlerlaw21uParse_ok ⟨h116, trivial⟩ (by kernel_rfl)
theorem s_hostlerlaw21uParse_p116 {w0 : World} (hw : Base w0) {K : AV → AH → Prop} : Pt w0 PP F_hostlerlaw21uParse F_hostlerlaw21uParse.ntmps B_hostlerlaw21uParse K 116 (fun ρ H => LoopP (r_hostlerlaw21uParse_p116 K) [ρ 4, ρ 11, ρ 12, ρ 13] H) :=
  Pt.loop (st := fun ρ => [ρ 4, ρ 11, ρ 12, ρ 13]) fun Y116 h116 => Pt.walk_eq (p := [false, false, true, false, true, true]) (ct := C_hostlerlaw21uParse) (tab := [(116, fun ρ H => Y116 [ρ 4, ρ 11, ρ 12, ρ 13] H), (935, fun ρ H => r_hostlerlaw21uParse_p935 K Y116 (ρ 4) (ρ 11) (ρ 12) (ρ 13) H)])
    (C_hostlerlaw21uParse_ok hw) PP_mixed B_hostlerlaw21uParse_ok ⟨h116, s_hostlerlaw21uParse_p935 hw h116, trivial⟩ (by kernel_rfl)
theorem r_hostlerlaw21uParse_ok {w0 : World} (hw : Base w0) : FnOk w0 PP 7 (r_hostlerlaw21uParse) := ⟨⟨F_hostlerlaw21uParse, by kernel_rfl, by kernel_rfl, by kernel_rfl⟩, sound_of_pt (fn := F_hostlerlaw21uParse) (body := B_hostlerlaw21uParse) (n := 1) (by kernel_rfl) (by kernel_rfl)
  (fun args H K h => by unfold r_hostlerlaw21uParse at h; split at h; rfl; exact h.elim) fun K => Pt.walk_eq (p := []) (ct := C_hostlerlaw21uParse) (tab := [(116, fun ρ H => LoopP (r_hostlerlaw21uParse_p116 K) [ρ 4, ρ 11, ρ 12, ρ 13] H)])
    (C_hostlerlaw21uParse_ok hw) PP_mixed B_hostlerlaw21uParse_ok ⟨s_hostlerlaw21uParse_p116 hw, trivial⟩ (by kernel_rfl)⟩

abbrev k_hostlerlaw21uSameSteps : Nat := 11
-- hostler/hostlerlaw21.SameSteps
noncomputable abbrev F_hostlerlaw21uSameSteps : Func := Go.Proofs.Tryz.f11
noncomputable def B_hostlerlaw21uSameSteps : Code := (F_hostlerlaw21uSameSteps.body).getD .skip
def C_hostlerlaw21uSameSteps : Table := tableOf [(25, r_hostlerlaw21uSameStep)]
theorem C_hostlerlaw21uSameSteps_ok {w0 : World} (hw : Base w0) : (C_hostlerlaw21uSameSteps).Ok w0 PP := TableOk.ok (w0 := w0) (P := PP) (l := [(25, r_hostlerlaw21uSameStep)]) ⟨(r_hostlerlaw21uSameStep_ok hw).call, trivial⟩
theorem B_hostlerlaw21uSameSteps_ok : codeOk F_hostlerlaw21uSameSteps.ntmps B_hostlerlaw21uSameSteps = true := by kernel_rfl
def r_hostlerlaw21uSameSteps_p116 (K : AV → AH → Prop) (Y116 : List AV → AH → Prop) (s : List AV) (H : AH) : Prop := match s with
| [t0, t1, t12, t13] =>
  bnd (abin PP .lss 3 t13 t12) fun t14u5 =>
  branch t14u5 (
  bnd (idxA 12 t0 t13) fun t18u6 =>
  bnd (ldN 12 t18u6 H) fun t19u7 =>
  bnd (idxA 12 t1 t13) fun t22u8 =>
  bnd (ldN 12 t22u8 H) fun t23u9 =>
  r_hostlerlaw21uSameStep [t19u7, t23u9] H fun t24u10 H_11 =>
  bnd (aun .not t24u10) fun t25u12 =>
  branch t25u12 (
  K (.bool false) H_11) (
  bnd (abin PP .add 3 t13 (.int .i64 1)) fun t26u13 =>
  Y116 [t0, t1, t12, t26u13] H_11)) (
  K (.bool true) H)
| _ => False
def r_hostlerlaw21uSameSteps : AFn := fun args H K => match args with
| [t0, t1] =>
  bnd (lenSl t0) fun t7u1 =>
  bnd (lenSl t1) fun t9u2 =>
  bnd (abin PP .neq 3 t7u1 t9u2) fun t10u3 =>
  branch t10u3 (
  K (.bool false) H) (
  bnd (lenSl t0) fun t12u4 =>
  LoopP (r_hostlerlaw21uSameSteps_p116 K) [t0, t1, t12u4, (.int .i64 0)] H)
| _ => False
theorem s_hostlerlaw21uSameSteps_p116 {w0 : World} (hw : Base w0) {K : AV → AH → Prop} : Pt w0 PP F_hostlerlaw21uSameSteps F_hostlerlaw21uSameSteps.ntmps B_hostlerlaw21uSameSteps K 116 (fun ρ H => LoopP (r_hostlerlaw21uSameSteps_p116 K) [ρ 0, ρ 1, ρ 12, ρ 13] H) :=
  Pt.loop (st := fun ρ => [ρ 0, ρ 1, ρ 12, ρ 13]) fun Y116 h116 => Pt.walk_eq (p := [false, false, true, false, true, true]) (ct := C_hostlerlaw21uSameSteps) (tab := [(116, fun ρ H => Y116 [ρ 0, ρ 1, ρ 12, ρ 13] H)])
    (C_hostlerlaw21uSameSteps_ok hw) PP_mixed B_hostlerlaw21uSameSteps_ok ⟨h116, trivial⟩ (by kernel_rfl)
theorem r_hostlerlaw21uSameSteps_ok {w0 : World} (hw : Base w0) : FnOk w0 PP 11 (r_hostlerlaw21uSameSteps) := ⟨⟨F_hostlerlaw21uSameSteps, by kernel_rfl, by kernel_rfl, by kernel_rfl⟩, sound_of_pt (fn := F_hostlerlaw21uSameSteps) (body := B_hostlerlaw21uSameSteps) (n := 2) (by kernel_rfl) (by kernel_rfl)
  (fun args H K h => by unfold r_hostlerlaw21uSameSteps at h; split at h; rfl; exact h.elim) fun K => Pt.walk_eq (p := []) (ct := C_hostlerlaw21uSameSteps) (tab := [(116, fun ρ H => LoopP (r_hostlerlaw21uSameSteps_p116 K) [ρ 0, ρ 1, ρ 12, ρ 13] H)])
    (C_hostlerlaw21uSameSteps_ok hw) PP_mixed B_hostlerlaw21uSameSteps_ok ⟨s_hostlerlaw21uSameSteps_p116 hw, trivial⟩ (by kernel_rfl)⟩

abbrev k_hostlerlaw21uText : Nat := 5
-- hostler/hostlerlaw21.Text
noncomputable abbrev F_hostlerlaw21uText : Func := Go.Proofs.Tryz.f5
noncomputable def B_hostlerlaw21uText : Code := (F_hostlerlaw21uText.body).getD .skip
def C_hostlerlaw21uText : Table := tableOf [(9, r_hostlerkeep_Text), (15, r_hostlerkeep_Within)]
theorem C_hostlerlaw21uText_ok {w0 : World} (hw : Base w0) : (C_hostlerlaw21uText).Ok w0 PP := TableOk.ok (w0 := w0) (P := PP) (l := [(9, r_hostlerkeep_Text), (15, r_hostlerkeep_Within)]) ⟨(r_hostlerkeep_Text_ok hw).call, (r_hostlerkeep_Within_ok hw).call, trivial⟩
theorem B_hostlerlaw21uText_ok : codeOk F_hostlerlaw21uText.ntmps B_hostlerlaw21uText = true := by kernel_rfl
def r_hostlerlaw21uText_p500 (K : AV → AH → Prop) (Y500 : List AV → AH → Prop) (s : List AV) (H : AH) : Prop := match s with
| [t1, t7, t8, t9] =>
  bnd (lenSl t1) fun t16u4 =>
  bnd (abin PP .lss 3 t9 t16u4) fun t17u5 =>
  aguard (gwant true t17u5) (fun k_8 =>
  k_8 t9 H) H fun t19u6 H_7 =>
  aguard (gwant true t17u5) (fun k_11 =>
  bnd (abin PP .lss 3 t19u6 (.int .i64 14)) fun t20u12 =>
  k_11 t20u12 H_7) H_7 fun t20u9 H_10 =>
  bnd (pickV t17u5 t20u9 (.bool false)) fun t21u13 =>
  branch t21u13 (
  bnd (idxA 1 t1 t9) fun t28u14 =>
  bnd (ld1 t28u14 H_10) fun t29u15 =>
  bnd (lenSl t7) fun t31u16 =>
  r_hostlerkeep_Within [t29u15, t31u16] H_10 fun t32u17 H_18 =>
  bnd (idxA 1 t7 t32u17) fun t33u19 =>
  bnd (ld1 t33u19 H_18) fun t34u20 =>
  bnd (abin PP .add 9 t8 t34u20) fun t35u21 =>
  bnd (abin PP .add 3 t9 (.int .i64 1)) fun t23u22 =>
  Y500 [t1, t7, t35u21, t23u22] H_18) (
  K t8 H_10)
| _ => False
def r_hostlerlaw21uText : AFn := fun args H K => match args with
| [t0, t1, t2] =>
  branch t2 (
  r_hostlerkeep_Text [t0, (.int .i64 90)] H fun t12u1 H_2 =>
  K t12u1 H_2) (
  bnd (buildSl 1 24 [(0, (.str [114, 117, 110, 32, 102, 32, 120, 32, 97, 32, 49, 32, 50, 10])), (1, (.str [114, 117, 110, 32, 102, 32, 120, 32, 97, 32, 49, 32, 50, 32, 98, 32, 51, 32, 52, 10])), (2, (.str [107, 105, 108, 108, 32, 102, 32, 97, 10])), (3, (.str [115, 104, 117, 116, 32, 102, 10])), (4, (.str [97, 99, 107, 32, 102, 32, 97, 32, 49, 32, 49, 10])), (5, (.str [97, 115, 107, 32, 102, 10])), (6, (.str [97, 115, 107, 32, 102, 32, 97, 32, 98, 10])), (7, (.str [119, 101, 108, 99, 111, 109, 101, 10])), (8, (.str [104, 101, 108, 108, 111, 32, 102, 32, 120, 32, 49, 10])), (9, (.str [114, 101, 112, 111, 114, 116, 32, 102, 32, 120, 32, 49, 32, 97, 32, 51, 10])), (10, (.str [103, 111, 110, 101, 32, 102, 32, 120, 32, 49, 10])), (11, (.str [116, 105, 99, 107, 32, 48, 10])), (12, (.str [102, 117, 115, 101, 32, 51, 10])), (13, (.str [99, 114, 97, 115, 104, 32, 50, 10])), (14, (.str [99, 114, 97, 115, 104, 32, 50, 32, 53, 10])), (15, (.str [10])), (16, (.str [32])), (17, (.str [116, 105, 99, 107])), (18, (.str [32, 55])), (19, (.str [120])), (20, (.str [48, 48])), (21, (.str [114, 117, 110, 32, 102, 32, 120, 32, 97, 32, 48, 32, 48, 10])), (22, (.str [114, 101, 112, 111, 114, 116, 32, 102, 32, 120, 32, 49, 32, 97, 32, 56, 10])), (23, (.str [97, 115, 107, 32, 102, 32, 97, 32, 97, 10]))]) fun t13u3 =>
  LoopP (r_hostlerlaw21uText_p500 K) [t1, t13u3, (.str []), (.int .i64 0)] H)
| _ => False
theorem s_hostlerlaw21uText_p500 {w0 : World} (hw : Base w0) {K : AV → AH → Prop} : Pt w0 PP F_hostlerlaw21uText F_hostlerlaw21uText.ntmps B_hostlerlaw21uText K 500 (fun ρ H => LoopP (r_hostlerlaw21uText_p500 K) [ρ 1, ρ 7, ρ 8, ρ 9] H) :=
  Pt.loop (st := fun ρ => [ρ 1, ρ 7, ρ 8, ρ 9]) fun Y500 h500 => Pt.walk_eq (p := [false, false, true, false, true, true, true, true]) (ct := C_hostlerlaw21uText) (tab := [(500, fun ρ H => Y500 [ρ 1, ρ 7, ρ 8, ρ 9] H)])
    (C_hostlerlaw21uText_ok hw) PP_mixed B_hostlerlaw21uText_ok ⟨h500, trivial⟩ (by kernel_rfl)
theorem r_hostlerlaw21uText_ok {w0 : World} (hw : Base w0) : FnOk w0 PP 5 (r_hostlerlaw21uText) := ⟨⟨F_hostlerlaw21uText, by kernel_rfl, by kernel_rfl, by kernel_rfl⟩, sound_of_pt (fn := F_hostlerlaw21uText) (body := B_hostlerlaw21uText) (n := 3) (by kernel_rfl) (by kernel_rfl)
  (fun args H K h => by unfold r_hostlerlaw21uText at h; split at h; rfl; exact h.elim) fun K => Pt.walk_eq (p := []) (ct := C_hostlerlaw21uText) (tab := [(500, fun ρ H => LoopP (r_hostlerlaw21uText_p500 K) [ρ 1, ρ 7, ρ 8, ρ 9] H)])
    (C_hostlerlaw21uText_ok hw) PP_mixed B_hostlerlaw21uText_ok ⟨s_hostlerlaw21uText_p500 hw, trivial⟩ (by kernel_rfl)⟩

abbrev k_hostlerlaw21uScriptParses : Nat := 3
-- hostler/hostlerlaw21.ScriptParses
noncomputable abbrev F_hostlerlaw21uScriptParses : Func := Go.Proofs.Tryz.f3
noncomputable def B_hostlerlaw21uScriptParses : Code := (F_hostlerlaw21uScriptParses.body).getD .skip
def C_hostlerlaw21uScriptParses : Table := tableOf [(5, r_hostlerlaw21uText), (6, r_script_Parse), (7, r_hostlerlaw21uParse), (8, r_script_Number), (9, r_hostlerkeep_Text), (10, r_hostlerlaw21uNumber), (11, r_hostlerlaw21uSameSteps), (12, r_hostlerlaw21uwakes)]
theorem C_hostlerlaw21uScriptParses_ok {w0 : World} (hw : Base w0) : (C_hostlerlaw21uScriptParses).Ok w0 PP := TableOk.ok (w0 := w0) (P := PP) (l := [(5, r_hostlerlaw21uText), (6, r_script_Parse), (7, r_hostlerlaw21uParse), (8, r_script_Number), (9, r_hostlerkeep_Text), (10, r_hostlerlaw21uNumber), (11, r_hostlerlaw21uSameSteps), (12, r_hostlerlaw21uwakes)]) ⟨(r_hostlerlaw21uText_ok hw).call, (r_script_Parse_ok hw).call, (r_hostlerlaw21uParse_ok hw).call, (r_script_Number_ok hw).call, (r_hostlerkeep_Text_ok hw).call, (r_hostlerlaw21uNumber_ok hw).call, (r_hostlerlaw21uSameSteps_ok hw).call, (r_hostlerlaw21uwakes_ok hw).call, trivial⟩
theorem B_hostlerlaw21uScriptParses_ok : codeOk F_hostlerlaw21uScriptParses.ntmps B_hostlerlaw21uScriptParses = true := by kernel_rfl
def r_hostlerlaw21uScriptParses : AFn := fun args H K => match args with
| [t0, t1, t2] =>
  r_hostlerlaw21uText [t0, t1, t2] H fun t19u1 H_2 =>
  r_script_Parse [t19u1] H_2 fun t22u3 H_4 =>
  bnd (aextract t22u3 0) fun t23u5 =>
  bnd (aextract t22u3 1) fun t24u6 =>
  r_hostlerlaw21uParse [t19u1] H_4 fun t27u7 H_8 =>
  bnd (aextract t27u7 0) fun t28u9 =>
  bnd (aextract t27u7 1) fun t29u10 =>
  r_hostlerkeep_Text [t0, (.int .i64 12)] H_8 fun t32u11 H_12 =>
  r_script_Number [t32u11] H_12 fun t33u13 H_14 =>
  bnd (aextract t33u13 0) fun t34u15 =>
  bnd (aextract t33u13 1) fun t35u16 =>
  r_hostlerkeep_Text [t0, (.int .i64 12)] H_14 fun t38u17 H_18 =>
  r_hostlerlaw21uNumber [t38u17] H_18 fun t39u19 H_20 =>
  bnd (aextract t39u19 0) fun t40u21 =>
  bnd (aextract t39u19 1) fun t41u22 =>
  bnd (abin PP .eql 25 t24u6 (.int .i64 0)) fun t43u23 =>
  bnd (abin PP .eql 4 t43u23 t29u10) fun t45u24 =>
  aguard (gwant true t45u24) (fun k_27 =>
  k_27 t29u10 H_20) H_20 fun t47u25 H_26 =>
  aguard (gwant true t45u24) (fun k_30 =>
  k_30 t47u25 H_26) H_26 fun t48u28 H_29 =>
  aguard (gwant false t48u28) (fun k_33 =>
  k_33 t24u6 H_29) H_29 fun t49u31 H_32 =>
  aguard (gwant false t48u28) (fun k_36 =>
  bnd (abin PP .eql 25 t49u31 (.int .i64 2)) fun t50u37 =>
  k_36 t50u37 H_32) H_32 fun t50u34 H_35 =>
  aguard (gwant true t45u24) (fun k_40 =>
  bnd (pickV t48u28 (.bool true) t50u34) fun t51u41 =>
  k_40 t51u41 H_35) H_35 fun t51u38 H_39 =>
  bnd (pickV t45u24 t51u38 (.bool false)) fun t52u42 =>
  aguard (gwant true t52u42) (fun k_45 =>
  k_45 t23u5 H_39) H_39 fun t54u43 H_44 =>
  aguard (gwant true t52u42) (fun k_48 =>
  k_48 t28u9 H_44) H_44 fun t55u46 H_47 =>
  aguard (gwant true t52u42) (fun k_51 =>
  r_hostlerlaw21uSameSteps [t54u43, t55u46] H_47 fun t56u52 H_53 =>
  k_51 t56u52 H_53) H_47 fun t56u49 H_50 =>
  bnd (pickV t52u42 t56u49 (.bool false)) fun t57u54 =>
  aguard (gwant true t57u54) (fun k_57 =>
  k_57 t34u15 H_50) H_50 fun t59u55 H_56 =>
  aguard (gwant true t57u54) (fun k_60 =>
  k_60 t40u21 H_56) H_56 fun t60u58 H_59 =>
  aguard (gwant true t57u54) (fun k_63 =>
  bnd (abin PP .eql 3 t59u55 t60u58) fun t61u64 =>
  k_63 t61u64 H_59) H_59 fun t61u61 H_62 =>
  bnd (pickV t57u54 t61u61 (.bool false)) fun t62u65 =>
  aguard (gwant true t62u65) (fun k_68 =>
  k_68 t35u16 H_62) H_62 fun t64u66 H_67 =>
  aguard (gwant true t62u65) (fun k_71 =>
  k_71 t41u22 H_67) H_67 fun t65u69 H_70 =>
  aguard (gwant true t62u65) (fun k_74 =>
  bnd (abin PP .eql 4 t64u66 t65u69) fun t66u75 =>
  k_74 t66u75 H_70) H_70 fun t66u72 H_73 =>
  bnd (pickV t62u65 t66u72 (.bool false)) fun t67u76 =>
  aguard (gwant true t67u76) (fun k_79 =>
  r_hostlerlaw21uwakes [] H_73 fun t69u80 H_81 =>
  k_79 t69u80 H_81) H_73 fun t69u77 H_78 =>
  bnd (pickV t67u76 t69u77 (.bool false)) fun t70u82 =>
  K t70u82 H_78
| _ => False
theorem r_hostlerlaw21uScriptParses_ok {w0 : World} (hw : Base w0) : FnOk w0 PP 3 (r_hostlerlaw21uScriptParses) := ⟨⟨F_hostlerlaw21uScriptParses, by kernel_rfl, by kernel_rfl, by kernel_rfl⟩, sound_of_pt (fn := F_hostlerlaw21uScriptParses) (body := B_hostlerlaw21uScriptParses) (n := 3) (by kernel_rfl) (by kernel_rfl)
  (fun args H K h => by unfold r_hostlerlaw21uScriptParses at h; split at h; rfl; exact h.elim) fun K => Pt.walk_eq (p := []) (ct := C_hostlerlaw21uScriptParses) (tab := [])
    (C_hostlerlaw21uScriptParses_ok hw) PP_mixed B_hostlerlaw21uScriptParses_ok trivial (by kernel_rfl)⟩
end Go.Va
end
