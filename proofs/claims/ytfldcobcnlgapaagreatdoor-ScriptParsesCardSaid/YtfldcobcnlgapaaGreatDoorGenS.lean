/- What functions of the program ask, over the plain view. -/
import Derived.Test.YtfldcobcnlgapaaGreatDoorVaNat
import Derived.Test.YtfldcobcnlgapaaGreatDoorVaFrz
import Derived.Test.YtfldcobcnlgapaaGreatDoorProg
import Derived.KernelRfl
set_option linter.unusedVariables false
set_option maxRecDepth 100000
noncomputable section
namespace Go.Va
noncomputable abbrev PP : Program := Go.Proofs.Tryz.prog
def Base (w0 : World) : Prop := True
theorem PP_mixed : PP.follows .mixedOrders = true := by kernel_rfl
abbrev k_i_bytealg_CountString : Nat := 92
def r_i_bytealg_CountString : AFn := nat_count
theorem r_i_bytealg_CountString_ok {w0 : World} (hw : Base w0) : NatOk w0 PP 92 r_i_bytealg_CountString := nat_count_ok (fn := Go.Proofs.Tryz.f92) (by kernel_rfl) (by kernel_rfl) (by kernel_rfl) (by kernel_rfl) (by kernel_rfl)

abbrev k_i_bytealg_IndexByteString : Nat := 129
def r_i_bytealg_IndexByteString : AFn := nat_indexByte
theorem r_i_bytealg_IndexByteString_ok {w0 : World} (hw : Base w0) : NatOk w0 PP 129 r_i_bytealg_IndexByteString := nat_indexByte_ok (fn := Go.Proofs.Tryz.f129) (by kernel_rfl) (by kernel_rfl) (by kernel_rfl) (by kernel_rfl) (by kernel_rfl)

abbrev k_i_bytealg_IndexString : Nat := 113
def r_i_bytealg_IndexString : AFn := fun _ _ _ => False
theorem r_i_bytealg_IndexString_ok {w0 : World} (hw : Base w0) : NatOk w0 PP 113 r_i_bytealg_IndexString := ⟨fun _ _ _ h => h.elim⟩

abbrev k_i_stringslite_IndexByte : Nat := 112
-- internal/stringslite.IndexByte
noncomputable abbrev F_i_stringslite_IndexByte : Func := Go.Proofs.Tryz.f112
noncomputable def B_i_stringslite_IndexByte : Code := (F_i_stringslite_IndexByte.body).getD .skip
def C_i_stringslite_IndexByte : Table := tableOf [(129, r_i_bytealg_IndexByteString)]
theorem C_i_stringslite_IndexByte_ok {w0 : World} (hw : Base w0) : (C_i_stringslite_IndexByte).Ok w0 PP := TableOk.ok (w0 := w0) (P := PP) (l := [(129, r_i_bytealg_IndexByteString)]) ⟨(r_i_bytealg_IndexByteString_ok hw).call, trivial⟩
theorem B_i_stringslite_IndexByte_ok : codeOk F_i_stringslite_IndexByte.ntmps B_i_stringslite_IndexByte = true := by kernel_rfl
def r_i_stringslite_IndexByte : AFn := fun args H K => match args with
| [t0, t1] =>
  r_i_bytealg_IndexByteString [t0, t1] H fun t7u1 H_2 =>
  K t7u1 H_2
| _ => False
theorem r_i_stringslite_IndexByte_ok {w0 : World} (hw : Base w0) : FnOk w0 PP 112 (r_i_stringslite_IndexByte) := ⟨⟨F_i_stringslite_IndexByte, by kernel_rfl, by kernel_rfl, by kernel_rfl⟩, sound_of_pt (fn := F_i_stringslite_IndexByte) (body := B_i_stringslite_IndexByte) (n := 2) (by kernel_rfl) (by kernel_rfl)
  (fun args H K h => by unfold r_i_stringslite_IndexByte at h; split at h; rfl; exact h.elim) fun K => Pt.walk_eq (p := []) (ct := C_i_stringslite_IndexByte) (tab := [])
    (C_i_stringslite_IndexByte_ok hw) PP_mixed B_i_stringslite_IndexByte_ok trivial (by kernel_rfl)⟩

abbrev k_strings_IndexByte : Nat := 116
-- strings.IndexByte
noncomputable abbrev F_strings_IndexByte : Func := Go.Proofs.Tryz.f116
noncomputable def B_strings_IndexByte : Code := (F_strings_IndexByte.body).getD .skip
def C_strings_IndexByte : Table := tableOf [(112, r_i_stringslite_IndexByte)]
theorem C_strings_IndexByte_ok {w0 : World} (hw : Base w0) : (C_strings_IndexByte).Ok w0 PP := TableOk.ok (w0 := w0) (P := PP) (l := [(112, r_i_stringslite_IndexByte)]) ⟨(r_i_stringslite_IndexByte_ok hw).call, trivial⟩
theorem B_strings_IndexByte_ok : codeOk F_strings_IndexByte.ntmps B_strings_IndexByte = true := by kernel_rfl
def r_strings_IndexByte : AFn := fun args H K => match args with
| [t0, t1] =>
  r_i_stringslite_IndexByte [t0, t1] H fun t7u1 H_2 =>
  K t7u1 H_2
| _ => False
theorem r_strings_IndexByte_ok {w0 : World} (hw : Base w0) : FnOk w0 PP 116 (r_strings_IndexByte) := ⟨⟨F_strings_IndexByte, by kernel_rfl, by kernel_rfl, by kernel_rfl⟩, sound_of_pt (fn := F_strings_IndexByte) (body := B_strings_IndexByte) (n := 2) (by kernel_rfl) (by kernel_rfl)
  (fun args H K h => by unfold r_strings_IndexByte at h; split at h; rfl; exact h.elim) fun K => Pt.walk_eq (p := []) (ct := C_strings_IndexByte) (tab := [])
    (C_strings_IndexByte_ok hw) PP_mixed B_strings_IndexByte_ok trivial (by kernel_rfl)⟩

abbrev k_i_bytealg_Cutover : Nat := 114
def r_i_bytealg_Cutover : AFn := fun _ _ _ => False
theorem r_i_bytealg_Cutover_ok {w0 : World} (hw : Base w0) : NatOk w0 PP 114 r_i_bytealg_Cutover := ⟨fun _ _ _ h => h.elim⟩

abbrev k_i_bytealg_IndexRabinKarp_string : Nat := 115
def r_i_bytealg_IndexRabinKarp_string : AFn := fun _ _ _ => False
theorem r_i_bytealg_IndexRabinKarp_string_ok {w0 : World} (hw : Base w0) : NatOk w0 PP 115 r_i_bytealg_IndexRabinKarp_string := ⟨fun _ _ _ h => h.elim⟩

abbrev k_i_stringslite_Index : Nat := 93
-- internal/stringslite.Index
noncomputable abbrev F_i_stringslite_Index : Func := Go.Proofs.Tryz.f93
noncomputable def B_i_stringslite_Index : Code := (F_i_stringslite_Index.body).getD .skip
def C_i_stringslite_Index : Table := tableOf [(112, r_i_stringslite_IndexByte), (113, r_i_bytealg_IndexString), (114, r_i_bytealg_Cutover), (115, r_i_bytealg_IndexRabinKarp_string)]
theorem C_i_stringslite_Index_ok {w0 : World} (hw : Base w0) : (C_i_stringslite_Index).Ok w0 PP := TableOk.ok (w0 := w0) (P := PP) (l := [(112, r_i_stringslite_IndexByte), (113, r_i_bytealg_IndexString), (114, r_i_bytealg_Cutover), (115, r_i_bytealg_IndexRabinKarp_string)]) ⟨(r_i_stringslite_IndexByte_ok hw).call, (r_i_bytealg_IndexString_ok hw).call, (r_i_bytealg_Cutover_ok hw).call, (r_i_bytealg_IndexRabinKarp_string_ok hw).call, trivial⟩
theorem B_i_stringslite_Index_ok : codeOk F_i_stringslite_Index.ntmps B_i_stringslite_Index = true := by kernel_rfl
def r_i_stringslite_Index_p32709 (K : AV → AH → Prop) (Y4088 : List AV → AH → Prop) (t0 : AV) (t1 : AV) (t5 : AV) (t6 : AV) (t7 : AV) (t8 : AV) (t9 : AV) (t10 : AV) (H : AH) : Prop :=
  bnd (abin PP .add 3 t8 (.int .i64 1)) fun t80u51 =>
  bnd (idxStr t0 t80u51) fun t81u52 =>
  bnd (abin PP .eql 5 t81u52 t7) fun t83u53 =>
  aguard (gwant true t83u53) (fun k_56 =>
  k_56 t0 H) H fun t85u54 H_55 =>
  aguard (gwant true t83u53) (fun k_59 =>
  k_59 t8 H_55) H_55 fun t86u57 H_58 =>
  aguard (gwant true t83u53) (fun k_62 =>
  k_62 t8 H_58) H_58 fun t87u60 H_61 =>
  aguard (gwant true t83u53) (fun k_65 =>
  k_65 t5 H_61) H_61 fun t88u63 H_64 =>
  aguard (gwant true t83u53) (fun k_68 =>
  bnd (abin PP .add 3 t87u60 t88u63) fun t89u69 =>
  k_68 t89u69 H_64) H_64 fun t89u66 H_67 =>
  aguard (gwant true t83u53) (fun k_72 =>
  bnd (sliceStr t85u54 (some t86u57) (some t89u66) none) fun t90u73 =>
  k_72 t90u73 H_67) H_67 fun t90u70 H_71 =>
  aguard (gwant true t83u53) (fun k_76 =>
  k_76 t1 H_71) H_71 fun t91u74 H_75 =>
  aguard (gwant true t83u53) (fun k_79 =>
  bnd (abin PP .eql 9 t90u70 t91u74) fun t92u80 =>
  k_79 t92u80 H_75) H_75 fun t92u77 H_78 =>
  bnd (pickV t83u53 t92u77 (.bool false)) fun t93u81 =>
  branch t93u81 (
  K t8 H_78) (
  bnd (abin PP .add 3 t8 (.int .i64 1)) fun t96u82 =>
  bnd (abin PP .add 3 t10 (.int .i64 1)) fun t98u83 =>
  bnd (ld1 .undef H_78) fun t100u84 =>
  bnd (abin PP .leq 3 t5 t100u84) fun t101u85 =>
  aguard (gwant true t101u85) (fun k_88 =>
  k_88 t98u83 H_78) H_78 fun t103u86 H_87 =>
  aguard (gwant true t101u85) (fun k_91 =>
  k_91 t96u82 H_87) H_87 fun t104u89 H_90 =>
  aguard (gwant true t101u85) (fun k_94 =>
  r_i_bytealg_Cutover [t104u89] H_90 fun t105u95 H_96 =>
  k_94 t105u95 H_96) H_90 fun t105u92 H_93 =>
  aguard (gwant true t101u85) (fun k_99 =>
  bnd (abin PP .gtr 3 t103u86 t105u92) fun t106u100 =>
  k_99 t106u100 H_93) H_93 fun t106u97 H_98 =>
  bnd (pickV t101u85 t106u97 (.bool false)) fun t107u101 =>
  branch t107u101 (
  bnd (sliceStr t0 (some t96u82) none none) fun t110u102 =>
  r_i_bytealg_IndexString [t110u102, t1] H_98 fun t112u103 H_104 =>
  bnd (abin PP .geq 3 t112u103 (.int .i64 0)) fun t114u105 =>
  branch t114u105 (
  bnd (abin PP .add 3 t112u103 t96u82) fun t117u106 =>
  K t117u106 H_104) (
  K (.int .i64 (-1)) H_104)) (
  bnd (ld1 .undef H_98) fun t119u107 =>
  bnd (abin PP .gtr 3 t5 t119u107) fun t120u108 =>
  aguard (gwant true t120u108) (fun k_111 =>
  k_111 t98u83 H_98) H_98 fun t122u109 H_110 =>
  aguard (gwant true t120u108) (fun k_114 =>
  k_114 t96u82 H_110) H_110 fun t123u112 H_113 =>
  aguard (gwant true t120u108) (fun k_117 =>
  bnd (abin PP .shr 3 t123u112 (.int .u64 4)) fun t124u118 =>
  k_117 t124u118 H_113) H_113 fun t124u115 H_116 =>
  aguard (gwant true t120u108) (fun k_121 =>
  bnd (abin PP .add 3 (.int .i64 4) t124u115) fun t125u122 =>
  k_121 t125u122 H_116) H_116 fun t125u119 H_120 =>
  aguard (gwant true t120u108) (fun k_125 =>
  bnd (abin PP .geq 3 t122u109 t125u119) fun t126u126 =>
  k_125 t126u126 H_120) H_120 fun t126u123 H_124 =>
  bnd (pickV t120u108 t126u123 (.bool false)) fun t127u127 =>
  aguard (gwant true t127u127) (fun k_130 =>
  k_130 t96u82 H_124) H_124 fun t129u128 H_129 =>
  aguard (gwant true t127u127) (fun k_133 =>
  k_133 t9 H_129) H_129 fun t130u131 H_132 =>
  aguard (gwant true t127u127) (fun k_136 =>
  bnd (abin PP .lss 3 t129u128 t130u131) fun t131u137 =>
  k_136 t131u137 H_132) H_132 fun t131u134 H_135 =>
  bnd (pickV t127u127 t131u134 (.bool false)) fun t132u138 =>
  branch t132u138 (
  bnd (sliceStr t0 (some t96u82) none none) fun t135u139 =>
  r_i_bytealg_IndexRabinKarp_string [t135u139, t1] H_135 fun t137u140 H_141 =>
  bnd (abin PP .lss 3 t137u140 (.int .i64 0)) fun t139u142 =>
  branch t139u142 (
  K (.int .i64 (-1)) H_141) (
  bnd (abin PP .add 3 t96u82 t137u140) fun t142u143 =>
  K t142u143 H_141)) (
  Y4088 [t0, t1, t5, t6, t7, t96u82, t9, t98u83] H_135)))
def r_i_stringslite_Index_p4088 (K : AV → AH → Prop) (Y4088 : List AV → AH → Prop) (s : List AV) (H : AH) : Prop := match s with
| [t0, t1, t5, t6, t7, t8, t9, t10] =>
  bnd (abin PP .lss 3 t8 t9) fun t59u41 =>
  branch t59u41 (
  bnd (idxStr t0 t8) fun t62u42 =>
  bnd (abin PP .neq 5 t62u42 t6) fun t64u43 =>
  branch t64u43 (
  bnd (abin PP .add 3 t8 (.int .i64 1)) fun t67u44 =>
  bnd (sliceStr t0 (some t67u44) (some t9) none) fun t69u45 =>
  r_i_stringslite_IndexByte [t69u45, t6] H fun t71u46 H_47 =>
  bnd (abin PP .lss 3 t71u46 (.int .i64 0)) fun t73u48 =>
  branch t73u48 (
  K (.int .i64 (-1)) H_47) (
  bnd (abin PP .add 3 t71u46 (.int .i64 1)) fun t76u49 =>
  bnd (abin PP .add 3 t8 t76u49) fun t77u50 =>
  r_i_stringslite_Index_p32709 K Y4088 t0 t1 t5 t6 t7 t77u50 t9 t10 H_47)) (
  r_i_stringslite_Index_p32709 K Y4088 t0 t1 t5 t6 t7 t8 t9 t10 H)) (
  K (.int .i64 (-1)) H)
| _ => False
def r_i_stringslite_Index : AFn := fun args H K => match args with
| [t0, t1] =>
  bnd (lenStr t1) fun t15u1 =>
  bnd (abin PP .eql 3 t15u1 (.int .i64 0)) fun t18u2 =>
  aguard (gwant false t18u2) (fun k_5 =>
  k_5 t1 H) H fun t20u3 H_4 =>
  aguard (gwant false t18u2) (fun k_8 =>
  k_8 t0 H_4) H_4 fun t21u6 H_7 =>
  aguard (gwant false t18u2) (fun k_11 =>
  bnd (abin PP .eql 9 t20u3 t21u6) fun t22u12 =>
  k_11 t22u12 H_7) H_7 fun t22u9 H_10 =>
  bnd (pickV t18u2 (.bool true) t22u9) fun t23u13 =>
  branch t23u13 (
  K (.int .i64 0) H_10) (
  bnd (abin PP .eql 3 t15u1 (.int .i64 1)) fun t26u14 =>
  branch t26u14 (
  bnd (idxStr t1 (.int .i64 0)) fun t29u15 =>
  r_i_stringslite_IndexByte [t0, t29u15] H_10 fun t30u16 H_17 =>
  K t30u16 H_17) (
  bnd (lenStr t0) fun t34u18 =>
  bnd (abin PP .geq 3 t15u1 t34u18) fun t35u19 =>
  branch t35u19 (
  K (.int .i64 (-1)) H_10) (
  bnd (ld1 .undef H_10) fun t38u20 =>
  bnd (abin PP .leq 3 t15u1 t38u20) fun t39u21 =>
  aguard (gwant true t39u21) (fun k_24 =>
  k_24 t0 H_10) H_10 fun t41u22 H_23 =>
  aguard (gwant true t39u21) (fun k_27 =>
  bnd (lenStr t41u22) fun t42u28 =>
  k_27 t42u28 H_23) H_23 fun t42u25 H_26 =>
  aguard (gwant true t39u21) (fun k_31 =>
  bnd (abin PP .leq 3 t42u25 (.int .i64 64)) fun t43u32 =>
  k_31 t43u32 H_26) H_26 fun t43u29 H_30 =>
  bnd (pickV t39u21 t43u29 (.bool false)) fun t44u33 =>
  branch t44u33 (
  r_i_bytealg_IndexString [t0, t1] H_30 fun t47u34 H_35 =>
  K t47u34 H_35) (
  bnd (idxStr t1 (.int .i64 0)) fun t49u36 =>
  bnd (idxStr t1 (.int .i64 1)) fun t51u37 =>
  bnd (lenStr t0) fun t53u38 =>
  bnd (abin PP .sub 3 t53u38 t15u1) fun t55u39 =>
  bnd (abin PP .add 3 t55u39 (.int .i64 1)) fun t56u40 =>
  LoopP (r_i_stringslite_Index_p4088 K) [t0, t1, t15u1, t49u36, t51u37, (.int .i64 0), t56u40, (.int .i64 0)] H_30))))
| _ => False
theorem s_i_stringslite_Index_p32709 {w0 : World} (hw : Base w0) {K : AV → AH → Prop} {Y4088 : List AV → AH → Prop} (h4088 : Pt w0 PP F_i_stringslite_Index F_i_stringslite_Index.ntmps B_i_stringslite_Index K 4088 (fun ρ H => Y4088 [ρ 0, ρ 1, ρ 5, ρ 6, ρ 7, ρ 8, ρ 9, ρ 10] H)) : Pt w0 PP F_i_stringslite_Index F_i_stringslite_Index.ntmps B_i_stringslite_Index K 32709 (fun ρ H => r_i_stringslite_Index_p32709 K Y4088 (ρ 0) (ρ 1) (ρ 5) (ρ 6) (ρ 7) (ρ 8) (ρ 9) (ρ 10) H) :=
  Pt.walk_eq (p := [true, false, true, false, false, false, true, true, true, true, true, true, true, true]) (ct := C_i_stringslite_Index) (tab := [(4088, fun ρ H => Y4088 [ρ 0, ρ 1, ρ 5, ρ 6, ρ 7, ρ 8, ρ 9, ρ 10] H)])
    (C_i_stringslite_Index_ok hw) PP_mixed B_i_stringslite_Index_ok ⟨h4088, trivial⟩ (by kernel_rfl)
theorem s_i_stringslite_Index_p4088 {w0 : World} (hw : Base w0) {K : AV → AH → Prop} : Pt w0 PP F_i_stringslite_Index F_i_stringslite_Index.ntmps B_i_stringslite_Index K 4088 (fun ρ H => LoopP (r_i_stringslite_Index_p4088 K) [ρ 0, ρ 1, ρ 5, ρ 6, ρ 7, ρ 8, ρ 9, ρ 10] H) :=
  Pt.loop (st := fun ρ => [ρ 0, ρ 1, ρ 5, ρ 6, ρ 7, ρ 8, ρ 9, ρ 10]) fun Y4088 h4088 => Pt.walk_eq (p := [false, false, false, true, true, true, true, true, true, true, true]) (ct := C_i_stringslite_Index) (tab := [(4088, fun ρ H => Y4088 [ρ 0, ρ 1, ρ 5, ρ 6, ρ 7, ρ 8, ρ 9, ρ 10] H), (32709, fun ρ H => r_i_stringslite_Index_p32709 K Y4088 (ρ 0) (ρ 1) (ρ 5) (ρ 6) (ρ 7) (ρ 8) (ρ 9) (ρ 10) H)])
    (C_i_stringslite_Index_ok hw) PP_mixed B_i_stringslite_Index_ok ⟨h4088, s_i_stringslite_Index_p32709 hw h4088, trivial⟩ (by kernel_rfl)
theorem r_i_stringslite_Index_ok {w0 : World} (hw : Base w0) : FnOk w0 PP 93 (r_i_stringslite_Index) := ⟨⟨F_i_stringslite_Index, by kernel_rfl, by kernel_rfl, by kernel_rfl⟩, sound_of_pt (fn := F_i_stringslite_Index) (body := B_i_stringslite_Index) (n := 2) (by kernel_rfl) (by kernel_rfl)
  (fun args H K h => by unfold r_i_stringslite_Index at h; split at h; rfl; exact h.elim) fun K => Pt.walk_eq (p := []) (ct := C_i_stringslite_Index) (tab := [(4088, fun ρ H => LoopP (r_i_stringslite_Index_p4088 K) [ρ 0, ρ 1, ρ 5, ρ 6, ρ 7, ρ 8, ρ 9, ρ 10] H)])
    (C_i_stringslite_Index_ok hw) PP_mixed B_i_stringslite_Index_ok ⟨s_i_stringslite_Index_p4088 hw, trivial⟩ (by kernel_rfl)⟩

abbrev k_strings_Index : Nat := 63
-- strings.Index
noncomputable abbrev F_strings_Index : Func := Go.Proofs.Tryz.f63
noncomputable def B_strings_Index : Code := (F_strings_Index.body).getD .skip
def C_strings_Index : Table := tableOf [(93, r_i_stringslite_Index)]
theorem C_strings_Index_ok {w0 : World} (hw : Base w0) : (C_strings_Index).Ok w0 PP := TableOk.ok (w0 := w0) (P := PP) (l := [(93, r_i_stringslite_Index)]) ⟨(r_i_stringslite_Index_ok hw).call, trivial⟩
theorem B_strings_Index_ok : codeOk F_strings_Index.ntmps B_strings_Index = true := by kernel_rfl
def r_strings_Index : AFn := fun args H K => match args with
| [t0, t1] =>
  r_i_stringslite_Index [t0, t1] H fun t7u1 H_2 =>
  K t7u1 H_2
| _ => False
theorem r_strings_Index_ok {w0 : World} (hw : Base w0) : FnOk w0 PP 63 (r_strings_Index) := ⟨⟨F_strings_Index, by kernel_rfl, by kernel_rfl, by kernel_rfl⟩, sound_of_pt (fn := F_strings_Index) (body := B_strings_Index) (n := 2) (by kernel_rfl) (by kernel_rfl)
  (fun args H K h => by unfold r_strings_Index at h; split at h; rfl; exact h.elim) fun K => Pt.walk_eq (p := []) (ct := C_strings_Index) (tab := [])
    (C_strings_Index_ok hw) PP_mixed B_strings_Index_ok trivial (by kernel_rfl)⟩

abbrev k_strings_explode : Nat := 61
def r_strings_explode : AFn := fun _ _ _ => False
theorem r_strings_explode_ok {w0 : World} (hw : Base w0) : NatOk w0 PP 61 r_strings_explode := ⟨fun _ _ _ h => h.elim⟩

abbrev k_unicode_utf8uRuneCountInString : Nat := 91
def r_unicode_utf8uRuneCountInString : AFn := fun _ _ _ => False
theorem r_unicode_utf8uRuneCountInString_ok {w0 : World} (hw : Base w0) : NatOk w0 PP 91 r_unicode_utf8uRuneCountInString := ⟨fun _ _ _ h => h.elim⟩

abbrev k_strings_Count : Nat := 62
-- strings.Count
noncomputable abbrev F_strings_Count : Func := Go.Proofs.Tryz.f62
noncomputable def B_strings_Count : Code := (F_strings_Count.body).getD .skip
def C_strings_Count : Table := tableOf [(63, r_strings_Index), (91, r_unicode_utf8uRuneCountInString), (92, r_i_bytealg_CountString)]
theorem C_strings_Count_ok {w0 : World} (hw : Base w0) : (C_strings_Count).Ok w0 PP := TableOk.ok (w0 := w0) (P := PP) (l := [(63, r_strings_Index), (91, r_unicode_utf8uRuneCountInString), (92, r_i_bytealg_CountString)]) ⟨(r_strings_Index_ok hw).call, (r_unicode_utf8uRuneCountInString_ok hw).call, (r_i_bytealg_CountString_ok hw).call, trivial⟩
theorem B_strings_Count_ok : codeOk F_strings_Count.ntmps B_strings_Count = true := by kernel_rfl
def r_strings_Count_p124 (K : AV → AH → Prop) (Y124 : List AV → AH → Prop) (s : List AV) (H : AH) : Prop := match s with
| [t0, t1, t5] =>
  r_strings_Index [t0, t1] H fun t22u11 H_12 =>
  bnd (abin PP .eql 3 t22u11 (.int .i64 (-1))) fun t24u13 =>
  branch t24u13 (
  K t5 H_12) (
  bnd (abin PP .add 3 t5 (.int .i64 1)) fun t27u14 =>
  bnd (lenStr t1) fun t31u15 =>
  bnd (abin PP .add 3 t22u11 t31u15) fun t32u16 =>
  bnd (sliceStr t0 (some t32u16) none none) fun t33u17 =>
  Y124 [t33u17, t1, t27u14] H_12)
| _ => False
def r_strings_Count : AFn := fun args H K => match args with
| [t0, t1] =>
  bnd (lenStr t1) fun t8u1 =>
  bnd (abin PP .eql 3 t8u1 (.int .i64 0)) fun t9u2 =>
  branch t9u2 (
  r_unicode_utf8uRuneCountInString [t0] H fun t11u3 H_4 =>
  bnd (abin PP .add 3 t11u3 (.int .i64 1)) fun t12u5 =>
  K t12u5 H_4) (
  bnd (lenStr t1) fun t14u6 =>
  bnd (abin PP .eql 3 t14u6 (.int .i64 1)) fun t15u7 =>
  branch t15u7 (
  bnd (idxStr t1 (.int .i64 0)) fun t18u8 =>
  r_i_bytealg_CountString [t0, t18u8] H fun t19u9 H_10 =>
  K t19u9 H_10) (
  LoopP (r_strings_Count_p124 K) [t0, t1, (.int .i64 0)] H))
| _ => False
theorem s_strings_Count_p124 {w0 : World} (hw : Base w0) {K : AV → AH → Prop} : Pt w0 PP F_strings_Count F_strings_Count.ntmps B_strings_Count K 124 (fun ρ H => LoopP (r_strings_Count_p124 K) [ρ 0, ρ 1, ρ 5] H) :=
  Pt.loop (st := fun ρ => [ρ 0, ρ 1, ρ 5]) fun Y124 h124 => Pt.walk_eq (p := [false, false, true, true, true, true]) (ct := C_strings_Count) (tab := [(124, fun ρ H => Y124 [ρ 0, ρ 1, ρ 5] H)])
    (C_strings_Count_ok hw) PP_mixed B_strings_Count_ok ⟨h124, trivial⟩ (by kernel_rfl)
theorem r_strings_Count_ok {w0 : World} (hw : Base w0) : FnOk w0 PP 62 (r_strings_Count) := ⟨⟨F_strings_Count, by kernel_rfl, by kernel_rfl, by kernel_rfl⟩, sound_of_pt (fn := F_strings_Count) (body := B_strings_Count) (n := 2) (by kernel_rfl) (by kernel_rfl)
  (fun args H K h => by unfold r_strings_Count at h; split at h; rfl; exact h.elim) fun K => Pt.walk_eq (p := []) (ct := C_strings_Count) (tab := [(124, fun ρ H => LoopP (r_strings_Count_p124 K) [ρ 0, ρ 1, ρ 5] H)])
    (C_strings_Count_ok hw) PP_mixed B_strings_Count_ok ⟨s_strings_Count_p124 hw, trivial⟩ (by kernel_rfl)⟩

abbrev k_strings_genSplit : Nat := 32
-- strings.genSplit
noncomputable abbrev F_strings_genSplit : Func := Go.Proofs.Tryz.f32
noncomputable def B_strings_genSplit : Code := (F_strings_genSplit.body).getD .skip
def C_strings_genSplit : Table := tableOf [(61, r_strings_explode), (62, r_strings_Count), (63, r_strings_Index)]
theorem C_strings_genSplit_ok {w0 : World} (hw : Base w0) : (C_strings_genSplit).Ok w0 PP := TableOk.ok (w0 := w0) (P := PP) (l := [(61, r_strings_explode), (62, r_strings_Count), (63, r_strings_Index)]) ⟨(r_strings_explode_ok hw).call, (r_strings_Count_ok hw).call, (r_strings_Index_ok hw).call, trivial⟩
theorem B_strings_genSplit_ok : codeOk F_strings_genSplit.ntmps B_strings_genSplit = true := by kernel_rfl
def r_strings_genSplit_p1023 (K : AV → AH → Prop) (t0 : AV) (t9 : AV) (t10 : AV) (H : AH) : Prop :=
  bnd (idxA 1 t9 t10) fun t61u18 =>
  bnd (ast 1 t61u18 t0 H) fun H_19 =>
  bnd (abin PP .add 3 t10 (.int .i64 1)) fun t64u20 =>
  bnd (sliceSl 1 t9 none (some t64u20) none) fun t65u21 =>
  K t65u21 H_19
def r_strings_genSplit_p4088 (K : AV → AH → Prop) (Y4088 : List AV → AH → Prop) (s : List AV) (H : AH) : Prop := match s with
| [t0, t1, t2, t3, t9, t10] =>
  bnd (abin PP .lss 3 t10 t3) fun t36u14 =>
  branch t36u14 (
  r_strings_Index [t0, t1] H fun t39u15 H_16 =>
  bnd (abin PP .lss 3 t39u15 (.int .i64 0)) fun t41u17 =>
  branch t41u17 (
  r_strings_genSplit_p1023 K t0 t9 t10 H_16) (
  bnd (abin PP .add 3 t39u15 t2) fun t47u22 =>
  bnd (sliceStr t0 none (some t47u22) none) fun t48u23 =>
  bnd (idxA 1 t9 t10) fun t49u24 =>
  bnd (ast 1 t49u24 t48u23 H_16) fun H_25 =>
  bnd (lenStr t1) fun t53u26 =>
  bnd (abin PP .add 3 t39u15 t53u26) fun t54u27 =>
  bnd (sliceStr t0 (some t54u27) none none) fun t55u28 =>
  bnd (abin PP .add 3 t10 (.int .i64 1)) fun t57u29 =>
  Y4088 [t55u28, t1, t2, t3, t9, t57u29] H_25)) (
  r_strings_genSplit_p1023 K t0 t9 t10 H)
| _ => False
def r_strings_genSplit_p31 (K : AV → AH → Prop) (t0 : AV) (t1 : AV) (t2 : AV) (t3 : AV) (H : AH) : Prop :=
  bnd (lenStr t0) fun t27u9 =>
  bnd (abin PP .add 3 t27u9 (.int .i64 1)) fun t28u10 =>
  bnd (amin2 t3 t28u10) fun t29u11 =>
  bnd (mkSl 16 [.str []] t29u11 t29u11 H) fun r_12 =>
  bnd (abin PP .sub 3 t29u11 (.int .i64 1)) fun t33u13 =>
  LoopP (r_strings_genSplit_p4088 K) [t0, t1, t2, t33u13, r_12.1, (.int .i64 0)] r_12.2
def r_strings_genSplit : AFn := fun args H K => match args with
| [t0, t1, t2, t3] =>
  bnd (abin PP .eql 3 t3 (.int .i64 0)) fun t13u1 =>
  branch t13u1 (
  K (.nils) H) (
  bnd (abin PP .eql 9 t1 (.str [])) fun t15u2 =>
  branch t15u2 (
  r_strings_explode [t0, t3] H fun t18u3 H_4 =>
  K t18u3 H_4) (
  bnd (abin PP .lss 3 t3 (.int .i64 0)) fun t20u5 =>
  branch t20u5 (
  r_strings_Count [t0, t1] H fun t23u6 H_7 =>
  bnd (abin PP .add 3 t23u6 (.int .i64 1)) fun t24u8 =>
  r_strings_genSplit_p31 K t0 t1 t2 t24u8 H_7) (
  r_strings_genSplit_p31 K t0 t1 t2 t3 H)))
| _ => False
theorem s_strings_genSplit_p1023 {w0 : World} (hw : Base w0) {K : AV → AH → Prop} : Pt w0 PP F_strings_genSplit F_strings_genSplit.ntmps B_strings_genSplit K 1023 (fun ρ H => r_strings_genSplit_p1023 K (ρ 0) (ρ 9) (ρ 10) H) :=
  Pt.walk_eq (p := [true, true, true, true, true, true, true, true, true]) (ct := C_strings_genSplit) (tab := [])
    (C_strings_genSplit_ok hw) PP_mixed B_strings_genSplit_ok trivial (by kernel_rfl)
theorem s_strings_genSplit_p4088 {w0 : World} (hw : Base w0) {K : AV → AH → Prop} : Pt w0 PP F_strings_genSplit F_strings_genSplit.ntmps B_strings_genSplit K 4088 (fun ρ H => LoopP (r_strings_genSplit_p4088 K) [ρ 0, ρ 1, ρ 2, ρ 3, ρ 9, ρ 10] H) :=
  Pt.loop (st := fun ρ => [ρ 0, ρ 1, ρ 2, ρ 3, ρ 9, ρ 10]) fun Y4088 h4088 => Pt.walk_eq (p := [false, false, false, true, true, true, true, true, true, true, true]) (ct := C_strings_genSplit) (tab := [(4088, fun ρ H => Y4088 [ρ 0, ρ 1, ρ 2, ρ 3, ρ 9, ρ 10] H), (1023, fun ρ H => r_strings_genSplit_p1023 K (ρ 0) (ρ 9) (ρ 10) H)])
    (C_strings_genSplit_ok hw) PP_mixed B_strings_genSplit_ok ⟨h4088, s_strings_genSplit_p1023 hw, trivial⟩ (by kernel_rfl)
theorem s_strings_genSplit_p31 {w0 : World} (hw : Base w0) {K : AV → AH → Prop} : Pt w0 PP F_strings_genSplit F_strings_genSplit.ntmps B_strings_genSplit K 31 (fun ρ H => r_strings_genSplit_p31 K (ρ 0) (ρ 1) (ρ 2) (ρ 3) H) :=
  Pt.walk_eq (p := [true, true, true, true]) (ct := C_strings_genSplit) (tab := [(4088, fun ρ H => LoopP (r_strings_genSplit_p4088 K) [ρ 0, ρ 1, ρ 2, ρ 3, ρ 9, ρ 10] H)])
    (C_strings_genSplit_ok hw) PP_mixed B_strings_genSplit_ok ⟨s_strings_genSplit_p4088 hw, trivial⟩ (by kernel_rfl)
theorem r_strings_genSplit_ok {w0 : World} (hw : Base w0) : FnOk w0 PP 32 (r_strings_genSplit) := ⟨⟨F_strings_genSplit, by kernel_rfl, by kernel_rfl, by kernel_rfl⟩, sound_of_pt (fn := F_strings_genSplit) (body := B_strings_genSplit) (n := 4) (by kernel_rfl) (by kernel_rfl)
  (fun args H K h => by unfold r_strings_genSplit at h; split at h; rfl; exact h.elim) fun K => Pt.walk_eq (p := []) (ct := C_strings_genSplit) (tab := [(31, fun ρ H => r_strings_genSplit_p31 K (ρ 0) (ρ 1) (ρ 2) (ρ 3) H)])
    (C_strings_genSplit_ok hw) PP_mixed B_strings_genSplit_ok ⟨s_strings_genSplit_p31 hw, trivial⟩ (by kernel_rfl)⟩

abbrev k_strings_Split : Nat := 16
-- strings.Split
noncomputable abbrev F_strings_Split : Func := Go.Proofs.Tryz.f16
noncomputable def B_strings_Split : Code := (F_strings_Split.body).getD .skip
def C_strings_Split : Table := tableOf [(32, r_strings_genSplit)]
theorem C_strings_Split_ok {w0 : World} (hw : Base w0) : (C_strings_Split).Ok w0 PP := TableOk.ok (w0 := w0) (P := PP) (l := [(32, r_strings_genSplit)]) ⟨(r_strings_genSplit_ok hw).call, trivial⟩
theorem B_strings_Split_ok : codeOk F_strings_Split.ntmps B_strings_Split = true := by kernel_rfl
def r_strings_Split : AFn := fun args H K => match args with
| [t0, t1] =>
  r_strings_genSplit [t0, t1, (.int .i64 0), (.int .i64 (-1))] H fun t7u1 H_2 =>
  K t7u1 H_2
| _ => False
theorem r_strings_Split_ok {w0 : World} (hw : Base w0) : FnOk w0 PP 16 (r_strings_Split) := ⟨⟨F_strings_Split, by kernel_rfl, by kernel_rfl, by kernel_rfl⟩, sound_of_pt (fn := F_strings_Split) (body := B_strings_Split) (n := 2) (by kernel_rfl) (by kernel_rfl)
  (fun args H K h => by unfold r_strings_Split at h; split at h; rfl; exact h.elim) fun K => Pt.walk_eq (p := []) (ct := C_strings_Split) (tab := [])
    (C_strings_Split_ok hw) PP_mixed B_strings_Split_ok trivial (by kernel_rfl)⟩

abbrev k_slices_IndexFunc_string_string : Nat := 33
-- slices.IndexFunc[[]string,string]
noncomputable abbrev F_slices_IndexFunc_string_string : Func := Go.Proofs.Tryz.f33
noncomputable def B_slices_IndexFunc_string_string : Code := (F_slices_IndexFunc_string_string.body).getD .skip
def C_slices_IndexFunc_string_string (ct : Tab) : Table := tableOr ct []
theorem C_slices_IndexFunc_string_string_ok {w0 : World} (hw : Base w0) {ct : Tab} (hct : ct.Ok w0 PP) : (C_slices_IndexFunc_string_string ct).Ok w0 PP := tableOr_ok hct trivial
theorem B_slices_IndexFunc_string_string_ok : codeOk F_slices_IndexFunc_string_string.ntmps B_slices_IndexFunc_string_string = true := by kernel_rfl
def r_slices_IndexFunc_string_string_p52 (ct : Tab) (K : AV → AH → Prop) (Y52 : List AV → AH → Prop) (s : List AV) (H : AH) : Prop := match s with
| [t0, t1, t7, t8] =>
  bnd (abin PP .lss 3 t8 t7) fun t9u2 =>
  branch t9u2 (
  bnd (idxA 1 t0 t8) fun t14u3 =>
  bnd (ld1 t14u3 H) fun t15u4 =>
  acallv ct t1 [t15u4] H fun t16u5 H_6 =>
  branch t16u5 (
  K t8 H_6) (
  bnd (abin PP .add 3 t8 (.int .i64 1)) fun t18u7 =>
  Y52 [t0, t1, t7, t18u7] H_6)) (
  K (.int .i64 (-1)) H)
| _ => False
def r_slices_IndexFunc_string_string (ct : Tab) : AFn := fun args H K => match args with
| [t0, t1] =>
  bnd (lenSl t0) fun t7u1 =>
  LoopP (r_slices_IndexFunc_string_string_p52 ct K) [t0, t1, t7u1, (.int .i64 0)] H
| _ => False
theorem s_slices_IndexFunc_string_string_p52 {w0 : World} (hw : Base w0) {ct : Tab} (hct : ct.Ok w0 PP) {K : AV → AH → Prop} : Pt w0 PP F_slices_IndexFunc_string_string F_slices_IndexFunc_string_string.ntmps B_slices_IndexFunc_string_string K 52 (fun ρ H => LoopP (r_slices_IndexFunc_string_string_p52 ct K) [ρ 0, ρ 1, ρ 7, ρ 8] H) :=
  Pt.loop (st := fun ρ => [ρ 0, ρ 1, ρ 7, ρ 8]) fun Y52 h52 => Pt.walk_eq (p := [false, false, true, false, true]) (ct := C_slices_IndexFunc_string_string ct) (tab := [(52, fun ρ H => Y52 [ρ 0, ρ 1, ρ 7, ρ 8] H)])
    (C_slices_IndexFunc_string_string_ok hw hct) PP_mixed B_slices_IndexFunc_string_string_ok ⟨h52, trivial⟩ (by kernel_rfl)
theorem r_slices_IndexFunc_string_string_ok {w0 : World} (hw : Base w0) {ct : Tab} (hct : ct.Ok w0 PP) : FnOk w0 PP 33 (r_slices_IndexFunc_string_string ct) := ⟨⟨F_slices_IndexFunc_string_string, by kernel_rfl, by kernel_rfl, by kernel_rfl⟩, sound_of_pt (fn := F_slices_IndexFunc_string_string) (body := B_slices_IndexFunc_string_string) (n := 2) (by kernel_rfl) (by kernel_rfl)
  (fun args H K h => by unfold r_slices_IndexFunc_string_string at h; split at h; rfl; exact h.elim) fun K => Pt.walk_eq (p := []) (ct := C_slices_IndexFunc_string_string ct) (tab := [(52, fun ρ H => LoopP (r_slices_IndexFunc_string_string_p52 ct K) [ρ 0, ρ 1, ρ 7, ρ 8] H)])
    (C_slices_IndexFunc_string_string_ok hw hct) PP_mixed B_slices_IndexFunc_string_string_ok ⟨s_slices_IndexFunc_string_string_p52 hw hct, trivial⟩ (by kernel_rfl)⟩

abbrev k_slices_DeleteFunc_string_string : Nat := 17
-- slices.DeleteFunc[[]string,string]
noncomputable abbrev F_slices_DeleteFunc_string_string : Func := Go.Proofs.Tryz.f17
noncomputable def B_slices_DeleteFunc_string_string : Code := (F_slices_DeleteFunc_string_string.body).getD .skip
def C_slices_DeleteFunc_string_string (ct : Tab) : Table := tableOr ct [(33, (r_slices_IndexFunc_string_string ct))]
theorem C_slices_DeleteFunc_string_string_ok {w0 : World} (hw : Base w0) {ct : Tab} (hct : ct.Ok w0 PP) : (C_slices_DeleteFunc_string_string ct).Ok w0 PP := tableOr_ok hct ⟨(r_slices_IndexFunc_string_string_ok hw hct).call, trivial⟩
theorem B_slices_DeleteFunc_string_string_ok : codeOk F_slices_DeleteFunc_string_string.ntmps B_slices_DeleteFunc_string_string = true := by kernel_rfl
def r_slices_DeleteFunc_string_string_p979 (ct : Tab) (K : AV → AH → Prop) (Y244 : List AV → AH → Prop) (t0 : AV) (t1 : AV) (t5 : AV) (t6 : AV) (H : AH) : Prop :=
  bnd (abin PP .add 3 t6 (.int .i64 1)) fun t21u15 =>
  Y244 [t0, t1, t5, t21u15] H
def r_slices_DeleteFunc_string_string_p244 (ct : Tab) (K : AV → AH → Prop) (Y244 : List AV → AH → Prop) (s : List AV) (H : AH) : Prop := match s with
| [t0, t1, t5, t6] =>
  bnd (lenSl t0) fun t18u5 =>
  bnd (abin PP .lss 3 t6 t18u5) fun t19u6 =>
  branch t19u6 (
  bnd (idxA 1 t0 t6) fun t24u7 =>
  bnd (ld1 t24u7 H) fun t25u8 =>
  acallv ct t1 [t25u8] H fun t28u9 H_10 =>
  bnd (aun .not t28u9) fun t29u11 =>
  branch t29u11 (
  bnd (idxA 1 t0 t5) fun t33u12 =>
  bnd (ast 1 t33u12 t25u8 H_10) fun H_13 =>
  bnd (abin PP .add 3 t5 (.int .i64 1)) fun t35u14 =>
  r_slices_DeleteFunc_string_string_p979 ct K Y244 t0 t1 t35u14 t6 H_13) (
  r_slices_DeleteFunc_string_string_p979 ct K Y244 t0 t1 t5 t6 H_10)) (
  bnd (sliceSl 1 t0 (some t5) none none) fun t38u16 =>
  bnd (oclear 1 [.str []] t38u16 H) fun H_17 =>
  bnd (sliceSl 1 t0 none (some t5) none) fun t41u18 =>
  K t41u18 H_17)
| _ => False
def r_slices_DeleteFunc_string_string (ct : Tab) : AFn := fun args H K => match args with
| [t0, t1] =>
(r_slices_IndexFunc_string_string ct) [t0, t1] H fun t10u1 H_2 =>
  bnd (abin PP .eql 3 t10u1 (.int .i64 (-1))) fun t12u3 =>
  branch t12u3 (
  K t0 H_2) (
  bnd (abin PP .add 3 t10u1 (.int .i64 1)) fun t15u4 =>
  LoopP (r_slices_DeleteFunc_string_string_p244 ct K) [t0, t1, t10u1, t15u4] H_2)
| _ => False
theorem s_slices_DeleteFunc_string_string_p979 {w0 : World} (hw : Base w0) {ct : Tab} (hct : ct.Ok w0 PP) {K : AV → AH → Prop} {Y244 : List AV → AH → Prop} (h244 : Pt w0 PP F_slices_DeleteFunc_string_string F_slices_DeleteFunc_string_string.ntmps B_slices_DeleteFunc_string_string K 244 (fun ρ H => Y244 [ρ 0, ρ 1, ρ 5, ρ 6] H)) : Pt w0 PP F_slices_DeleteFunc_string_string F_slices_DeleteFunc_string_string.ntmps B_slices_DeleteFunc_string_string K 979 (fun ρ H => r_slices_DeleteFunc_string_string_p979 ct K Y244 (ρ 0) (ρ 1) (ρ 5) (ρ 6) H) :=
  Pt.walk_eq (p := [true, true, false, false, true, false, true, true, true]) (ct := C_slices_DeleteFunc_string_string ct) (tab := [(244, fun ρ H => Y244 [ρ 0, ρ 1, ρ 5, ρ 6] H)])
    (C_slices_DeleteFunc_string_string_ok hw hct) PP_mixed B_slices_DeleteFunc_string_string_ok ⟨h244, trivial⟩ (by kernel_rfl)
theorem s_slices_DeleteFunc_string_string_p244 {w0 : World} (hw : Base w0) {ct : Tab} (hct : ct.Ok w0 PP) {K : AV → AH → Prop} : Pt w0 PP F_slices_DeleteFunc_string_string F_slices_DeleteFunc_string_string.ntmps B_slices_DeleteFunc_string_string K 244 (fun ρ H => LoopP (r_slices_DeleteFunc_string_string_p244 ct K) [ρ 0, ρ 1, ρ 5, ρ 6] H) :=
  Pt.loop (st := fun ρ => [ρ 0, ρ 1, ρ 5, ρ 6]) fun Y244 h244 => Pt.walk_eq (p := [false, false, true, false, true, true, true]) (ct := C_slices_DeleteFunc_string_string ct) (tab := [(244, fun ρ H => Y244 [ρ 0, ρ 1, ρ 5, ρ 6] H), (979, fun ρ H => r_slices_DeleteFunc_string_string_p979 ct K Y244 (ρ 0) (ρ 1) (ρ 5) (ρ 6) H)])
    (C_slices_DeleteFunc_string_string_ok hw hct) PP_mixed B_slices_DeleteFunc_string_string_ok ⟨h244, s_slices_DeleteFunc_string_string_p979 hw hct h244, trivial⟩ (by kernel_rfl)
theorem r_slices_DeleteFunc_string_string_ok {w0 : World} (hw : Base w0) {ct : Tab} (hct : ct.Ok w0 PP) : FnOk w0 PP 17 (r_slices_DeleteFunc_string_string ct) := ⟨⟨F_slices_DeleteFunc_string_string, by kernel_rfl, by kernel_rfl, by kernel_rfl⟩, sound_of_pt (fn := F_slices_DeleteFunc_string_string) (body := B_slices_DeleteFunc_string_string) (n := 2) (by kernel_rfl) (by kernel_rfl)
  (fun args H K h => by unfold r_slices_DeleteFunc_string_string at h; split at h; rfl; exact h.elim) fun K => Pt.walk_eq (p := []) (ct := C_slices_DeleteFunc_string_string ct) (tab := [(244, fun ρ H => LoopP (r_slices_DeleteFunc_string_string_p244 ct K) [ρ 0, ρ 1, ρ 5, ρ 6] H)])
    (C_slices_DeleteFunc_string_string_ok hw hct) PP_mixed B_slices_DeleteFunc_string_string_ok ⟨s_slices_DeleteFunc_string_string_p244 hw hct, trivial⟩ (by kernel_rfl)⟩

abbrev k_unicode_utf8uValidRune : Nat := 117
def r_unicode_utf8uValidRune : AFn := fun _ _ _ => False
theorem r_unicode_utf8uValidRune_ok {w0 : World} (hw : Base w0) : NatOk w0 PP 117 r_unicode_utf8uValidRune := ⟨fun _ _ _ h => h.elim⟩

abbrev k_strings_IndexRune : Nat := 95
-- strings.IndexRune
noncomputable abbrev F_strings_IndexRune : Func := Go.Proofs.Tryz.f95
noncomputable def B_strings_IndexRune : Code := (F_strings_IndexRune.body).getD .skip
def C_strings_IndexRune : Table := tableOf [(113, r_i_bytealg_IndexString), (114, r_i_bytealg_Cutover), (116, r_strings_IndexByte), (117, r_unicode_utf8uValidRune)]
theorem C_strings_IndexRune_ok {w0 : World} (hw : Base w0) : (C_strings_IndexRune).Ok w0 PP := TableOk.ok (w0 := w0) (P := PP) (l := [(113, r_i_bytealg_IndexString), (114, r_i_bytealg_Cutover), (116, r_strings_IndexByte), (117, r_unicode_utf8uValidRune)]) ⟨(r_i_bytealg_IndexString_ok hw).call, (r_i_bytealg_Cutover_ok hw).call, (r_strings_IndexByte_ok hw).call, (r_unicode_utf8uValidRune_ok hw).call, trivial⟩
theorem B_strings_IndexRune_ok : codeOk F_strings_IndexRune.ntmps B_strings_IndexRune = true := by kernel_rfl
def r_strings_IndexRune_p1764 (K : AV → AH → Prop) (Y1764 : List AV → AH → Prop) (s : List AV) (H : AH) : Prop := match s with
| [t175] =>
  bnd (nextStr t175 H) fun r_15 =>
  bnd (aextract r_15.1 0) fun t177u16 =>
  branch t177u16 (
  bnd (aextract r_15.1 1) fun t178u17 =>
  bnd (aextract r_15.1 2) fun t179u18 =>
  bnd (abin PP .eql 21 t179u18 (.int .i32 65533)) fun t181u19 =>
  branch t181u19 (
  K t178u17 r_15.2) (
  Y1764 [t175] r_15.2)) (
  K (.int .i64 (-1)) r_15.2)
| _ => False
def r_strings_IndexRune_p229119 (K : AV → AH → Prop) (H : AH) : Prop :=
  K (.int .i64 (-1)) H
def r_strings_IndexRune_p117308787 (K : AV → AH → Prop) (Y29327196 : List AV → AH → Prop) (t0 : AV) (t7 : AV) (t8 : AV) (t9 : AV) (t14 : AV) (t15 : AV) (H : AH) : Prop :=
  bnd (abin PP .add 3 t9 (.int .i64 1)) fun t126u170 =>
  Y29327196 [t0, t7, t8, t126u170, t14, t15] H
def r_strings_IndexRune_p15015524644 (K : AV → AH → Prop) (Y29327196 : List AV → AH → Prop) (Y15015524644 : List AV → AH → Prop) (s : List AV) (H : AH) : Prop := match s with
| [t0, t7, t8, t9, t14, t15, t16] =>
  bnd (lenStr t7) fun t142u163 =>
  bnd (abin PP .lss 3 t16 t142u163) fun t143u164 =>
  branch t143u164 (
  bnd (abin PP .sub 3 t9 t16) fun t149u165 =>
  bnd (idxStr t0 t149u165) fun t150u166 =>
  bnd (abin PP .sub 3 t8 t16) fun t154u167 =>
  bnd (idxStr t7 t154u167) fun t155u168 =>
  bnd (abin PP .neq 5 t150u166 t155u168) fun t156u169 =>
  branch t156u169 (
  r_strings_IndexRune_p117308787 K Y29327196 t0 t7 t8 t9 t14 t15 H) (
  bnd (abin PP .add 3 t16 (.int .i64 1)) fun t145u171 =>
  Y15015524644 [t0, t7, t8, t9, t14, t15, t145u171] H)) (
  bnd (abin PP .sub 3 t9 t8) fun t159u172 =>
  K t159u172 H)
| _ => False
def r_strings_IndexRune_p29327196 (K : AV → AH → Prop) (Y29327196 : List AV → AH → Prop) (s : List AV) (H : AH) : Prop := match s with
| [t0, t7, t8, t9, t14, t15] =>
  bnd (lenStr t0) fun t123u137 =>
  bnd (abin PP .lss 3 t9 t123u137) fun t124u138 =>
  branch t124u138 (
  bnd (idxStr t0 t9) fun t129u139 =>
  bnd (abin PP .eql 5 t129u139 t14) fun t131u140 =>
  aguard (gwant true t131u140) (fun k_143 =>
  k_143 t0 H) H fun t133u141 H_142 =>
  aguard (gwant true t131u140) (fun k_146 =>
  k_146 t9 H_142) H_142 fun t134u144 H_145 =>
  aguard (gwant true t131u140) (fun k_149 =>
  bnd (abin PP .sub 3 t134u144 (.int .i64 1)) fun t135u150 =>
  k_149 t135u150 H_145) H_145 fun t135u147 H_148 =>
  aguard (gwant true t131u140) (fun k_153 =>
  bnd (idxStr t133u141 t135u147) fun t136u154 =>
  k_153 t136u154 H_148) H_148 fun t136u151 H_152 =>
  aguard (gwant true t131u140) (fun k_157 =>
  k_157 t15 H_152) H_152 fun t137u155 H_156 =>
  aguard (gwant true t131u140) (fun k_160 =>
  bnd (abin PP .eql 5 t136u151 t137u155) fun t138u161 =>
  k_160 t138u161 H_156) H_156 fun t138u158 H_159 =>
  bnd (pickV t131u140 t138u158 (.bool false)) fun t139u162 =>
  branch t139u162 (
  LoopP (r_strings_IndexRune_p15015524644 K Y29327196) [t0, t7, t8, t9, t14, t15, (.int .i64 2)] H_159) (
  r_strings_IndexRune_p117308787 K Y29327196 t0 t7 t8 t9 t14 t15 H_159)) (
  r_strings_IndexRune_p229119 K H)
| _ => False
def r_strings_IndexRune_p114558 (K : AV → AH → Prop) (Y114558 : List AV → AH → Prop) (s : List AV) (H : AH) : Prop := match s with
| [t0, t1, t7, t8, t9] =>
  branch (.bool true) (
  bnd (abin PP .sub 3 t9 t8) fun t102u126 =>
  bnd (sliceStr t0 (some t102u126) none none) fun t103u127 =>
  bnd (convR (.int .i32) .string t1) fun t105u128 =>
  r_i_bytealg_IndexString [t103u127, t105u128] H fun t106u129 H_130 =>
  bnd (abin PP .geq 3 t106u129 (.int .i64 0)) fun t108u131 =>
  branch t108u131 (
  bnd (abin PP .add 3 t9 t106u129) fun t111u132 =>
  bnd (abin PP .sub 3 t111u132 t8) fun t113u133 =>
  K t113u133 H_130) (
  r_strings_IndexRune_p229119 K H_130)) (
  bnd (idxStr t7 t8) fun t116u134 =>
  bnd (abin PP .sub 3 t8 (.int .i64 1)) fun t119u135 =>
  bnd (idxStr t7 t119u135) fun t120u136 =>
  LoopP (r_strings_IndexRune_p29327196 K) [t0, t7, t8, t9, t116u134, t120u136] H)
| _ => False
def r_strings_IndexRune_p14662734 (K : AV → AH → Prop) (Y114552 : List AV → AH → Prop) (Y14662734 : List AV → AH → Prop) (s : List AV) (H : AH) : Prop := match s with
| [t0, t1, t7, t8, t9, t10] =>
  bnd (abin PP .add 3 t10 (.int .i64 1)) fun t69u46 =>
  bnd (abin PP .add 3 t9 (.int .i64 1)) fun t71u47 =>
  aguard (gwant true (.bool true)) (fun k_50 =>
  k_50 t69u46 H) H fun t73u48 H_49 =>
  aguard (gwant true (.bool true)) (fun k_53 =>
  k_53 t71u47 H_49) H_49 fun t74u51 H_52 =>
  aguard (gwant true (.bool true)) (fun k_56 =>
  r_i_bytealg_Cutover [t74u51] H_52 fun t75u57 H_58 =>
  k_56 t75u57 H_58) H_52 fun t75u54 H_55 =>
  aguard (gwant true (.bool true)) (fun k_61 =>
  bnd (abin PP .gtr 3 t73u48 t75u54) fun t76u62 =>
  k_61 t76u62 H_55) H_55 fun t76u59 H_60 =>
  bnd (pickV (.bool true) t76u59 (.bool false)) fun t77u63 =>
  aguard (gwant true t77u63) (fun k_66 =>
  k_66 t71u47 H_60) H_60 fun t79u64 H_65 =>
  aguard (gwant true t77u63) (fun k_69 =>
  k_69 t0 H_65) H_65 fun t80u67 H_68 =>
  aguard (gwant true t77u63) (fun k_72 =>
  bnd (lenStr t80u67) fun t81u73 =>
  k_72 t81u73 H_68) H_68 fun t81u70 H_71 =>
  aguard (gwant true t77u63) (fun k_76 =>
  bnd (abin PP .lss 3 t79u64 t81u70) fun t82u77 =>
  k_76 t82u77 H_71) H_71 fun t82u74 H_75 =>
  bnd (pickV t77u63 t82u74 (.bool false)) fun t83u78 =>
  aguard (gwant false t83u78) (fun k_81 =>
  k_81 (.bool false) H_75) H_75 fun t85u79 H_80 =>
  aguard (gwant true t85u79) (fun k_84 =>
  k_84 t69u46 H_80) H_80 fun t86u82 H_83 =>
  aguard (gwant true t85u79) (fun k_87 =>
  k_87 t71u47 H_83) H_83 fun t87u85 H_86 =>
  aguard (gwant true t85u79) (fun k_90 =>
  bnd (abin PP .shr 3 t87u85 (.int .u64 4)) fun t88u91 =>
  k_90 t88u91 H_86) H_86 fun t88u88 H_89 =>
  aguard (gwant true t85u79) (fun k_94 =>
  bnd (abin PP .add 3 (.int .i64 4) t88u88) fun t89u95 =>
  k_94 t89u95 H_89) H_89 fun t89u92 H_93 =>
  aguard (gwant true t85u79) (fun k_98 =>
  bnd (abin PP .geq 3 t86u82 t89u92) fun t90u99 =>
  k_98 t90u99 H_93) H_93 fun t90u96 H_97 =>
  aguard (gwant false t83u78) (fun k_102 =>
  bnd (pickV t85u79 t90u96 (.bool false)) fun t91u103 =>
  k_102 t91u103 H_97) H_97 fun t91u100 H_101 =>
  aguard (gwant false t83u78) (fun k_106 =>
  k_106 t91u100 H_101) H_101 fun t92u104 H_105 =>
  aguard (gwant true t92u104) (fun k_109 =>
  k_109 t71u47 H_105) H_105 fun t93u107 H_108 =>
  aguard (gwant true t92u104) (fun k_112 =>
  k_112 t0 H_108) H_108 fun t94u110 H_111 =>
  aguard (gwant true t92u104) (fun k_115 =>
  bnd (lenStr t94u110) fun t95u116 =>
  k_115 t95u116 H_111) H_111 fun t95u113 H_114 =>
  aguard (gwant true t92u104) (fun k_119 =>
  bnd (abin PP .lss 3 t93u107 t95u113) fun t96u120 =>
  k_119 t96u120 H_114) H_114 fun t96u117 H_118 =>
  aguard (gwant false t83u78) (fun k_123 =>
  bnd (pickV t92u104 t96u117 (.bool false)) fun t97u124 =>
  k_123 t97u124 H_118) H_118 fun t97u121 H_122 =>
  bnd (pickV t83u78 (.bool true) t97u121) fun t98u125 =>
  branch t98u125 (
  LoopP (r_strings_IndexRune_p114558 K) [t0, t1, t7, t8, t71u47] H_122) (
  Y114552 [t0, t1, t7, t8, t71u47, t69u46] H_122)
| _ => False
def r_strings_IndexRune_p29325460 (K : AV → AH → Prop) (Y114552 : List AV → AH → Prop) (Y29325460 : List AV → AH → Prop) (s : List AV) (H : AH) : Prop := match s with
| [t0, t1, t7, t8, t9, t10, t12] =>
  bnd (lenStr t7) fun t50u39 =>
  bnd (abin PP .lss 3 t12 t50u39) fun t51u40 =>
  branch t51u40 (
  bnd (abin PP .sub 3 t9 t12) fun t57u41 =>
  bnd (idxStr t0 t57u41) fun t58u42 =>
  bnd (abin PP .sub 3 t8 t12) fun t62u43 =>
  bnd (idxStr t7 t62u43) fun t63u44 =>
  bnd (abin PP .neq 5 t58u42 t63u44) fun t64u45 =>
  branch t64u45 (
  LoopP (r_strings_IndexRune_p14662734 K Y114552) [t0, t1, t7, t8, t9, t10] H) (
  bnd (abin PP .add 3 t12 (.int .i64 1)) fun t53u173 =>
  Y29325460 [t0, t1, t7, t8, t9, t10, t53u173] H)) (
  bnd (abin PP .sub 3 t9 t8) fun t67u174 =>
  K t67u174 H)
| _ => False
def r_strings_IndexRune_p1832841 (K : AV → AH → Prop) (Y114552 : List AV → AH → Prop) (t0 : AV) (t1 : AV) (t7 : AV) (t8 : AV) (t9 : AV) (t10 : AV) (H : AH) : Prop :=
  LoopP (r_strings_IndexRune_p29325460 K Y114552) [t0, t1, t7, t8, t9, t10, (.int .i64 1)] H
def r_strings_IndexRune_p114552 (K : AV → AH → Prop) (Y114552 : List AV → AH → Prop) (s : List AV) (H : AH) : Prop := match s with
| [t0, t1, t7, t8, t9, t10] =>
  bnd (lenStr t0) fun t25u26 =>
  bnd (abin PP .lss 3 t9 t25u26) fun t26u27 =>
  branch t26u27 (
  bnd (idxStr t0 t9) fun t29u28 =>
  bnd (idxStr t7 t8) fun t32u29 =>
  bnd (abin PP .neq 5 t29u28 t32u29) fun t33u30 =>
  branch t33u30 (
  bnd (abin PP .add 3 t9 (.int .i64 1)) fun t36u31 =>
  bnd (sliceStr t0 (some t36u31) none none) fun t37u32 =>
  bnd (idxStr t7 t8) fun t40u33 =>
  r_strings_IndexByte [t37u32, t40u33] H fun t41u34 H_35 =>
  bnd (abin PP .lss 3 t41u34 (.int .i64 0)) fun t43u36 =>
  branch t43u36 (
  K (.int .i64 (-1)) H_35) (
  bnd (abin PP .add 3 t41u34 (.int .i64 1)) fun t46u37 =>
  bnd (abin PP .add 3 t9 t46u37) fun t47u38 =>
  r_strings_IndexRune_p1832841 K Y114552 t0 t1 t7 t8 t47u38 t10 H_35)) (
  r_strings_IndexRune_p1832841 K Y114552 t0 t1 t7 t8 t9 t10 H)) (
  K (.int .i64 (-1)) H)
| _ => False
def r_strings_IndexRune : AFn := fun args H K => match args with
| [t0, t1] =>
  bnd (abin PP .leq 21 (.int .i32 0) t1) fun t162u1 =>
  aguard (gwant true t162u1) (fun k_4 =>
  k_4 t1 H) H fun t164u2 H_3 =>
  aguard (gwant true t162u1) (fun k_7 =>
  bnd (abin PP .lss 21 t164u2 (.int .i32 128)) fun t165u8 =>
  k_7 t165u8 H_3) H_3 fun t165u5 H_6 =>
  bnd (pickV t162u1 t165u5 (.bool false)) fun t166u9 =>
  branch t166u9 (
  bnd (convR (.int .i32) (.int .u8) t1) fun t169u10 =>
  r_strings_IndexByte [t0, t169u10] H_6 fun t170u11 H_12 =>
  K t170u11 H_12) (
  bnd (abin PP .eql 21 t1 (.int .i32 65533)) fun t173u13 =>
  branch t173u13 (
  bnd (rangeStr t0 H_6) fun r_14 =>
  LoopP (r_strings_IndexRune_p1764 K) [r_14.1] r_14.2) (
  r_unicode_utf8uValidRune [t1] H_6 fun t185u20 H_21 =>
  bnd (aun .not t185u20) fun t186u22 =>
  branch t186u22 (
  K (.int .i64 (-1)) H_21) (
  bnd (convR (.int .i32) .string t1) fun t18u23 =>
  bnd (lenStr t18u23) fun t20u24 =>
  bnd (abin PP .sub 3 t20u24 (.int .i64 1)) fun t21u25 =>
  LoopP (r_strings_IndexRune_p114552 K) [t0, t1, t18u23, t21u25, t21u25, (.int .i64 0)] H_21)))
| _ => False
theorem s_strings_IndexRune_p1764 {w0 : World} (hw : Base w0) {K : AV → AH → Prop} : Pt w0 PP F_strings_IndexRune F_strings_IndexRune.ntmps B_strings_IndexRune K 1764 (fun ρ H => LoopP (r_strings_IndexRune_p1764 K) [ρ 175] H) :=
  Pt.loop (st := fun ρ => [ρ 175]) fun Y1764 h1764 => Pt.walk_eq (p := [false, false, true, false, false, true, true, true, false, true]) (ct := C_strings_IndexRune) (tab := [(1764, fun ρ H => Y1764 [ρ 175] H)])
    (C_strings_IndexRune_ok hw) PP_mixed B_strings_IndexRune_ok ⟨h1764, trivial⟩ (by kernel_rfl)
theorem s_strings_IndexRune_p229119 {w0 : World} (hw : Base w0) {K : AV → AH → Prop} : Pt w0 PP F_strings_IndexRune F_strings_IndexRune.ntmps B_strings_IndexRune K 229119 (fun ρ H => r_strings_IndexRune_p229119 K H) :=
  Pt.walk_eq (p := [true, true, true, true, true, true, true, true, false, true, true, true, true, true, true, false, true]) (ct := C_strings_IndexRune) (tab := [])
    (C_strings_IndexRune_ok hw) PP_mixed B_strings_IndexRune_ok trivial (by kernel_rfl)
theorem s_strings_IndexRune_p117308787 {w0 : World} (hw : Base w0) {K : AV → AH → Prop} {Y29327196 : List AV → AH → Prop} (h29327196 : Pt w0 PP F_strings_IndexRune F_strings_IndexRune.ntmps B_strings_IndexRune K 29327196 (fun ρ H => Y29327196 [ρ 0, ρ 7, ρ 8, ρ 9, ρ 14, ρ 15] H)) : Pt w0 PP F_strings_IndexRune F_strings_IndexRune.ntmps B_strings_IndexRune K 117308787 (fun ρ H => r_strings_IndexRune_p117308787 K Y29327196 (ρ 0) (ρ 7) (ρ 8) (ρ 9) (ρ 14) (ρ 15) H) :=
  Pt.walk_eq (p := [true, true, false, false, true, true, true, false, true, false, true, true, true, true, true, true, true, false, true, true, true, true, true, true, false, true]) (ct := C_strings_IndexRune) (tab := [(29327196, fun ρ H => Y29327196 [ρ 0, ρ 7, ρ 8, ρ 9, ρ 14, ρ 15] H)])
    (C_strings_IndexRune_ok hw) PP_mixed B_strings_IndexRune_ok ⟨h29327196, trivial⟩ (by kernel_rfl)
theorem s_strings_IndexRune_p15015524644 {w0 : World} (hw : Base w0) {K : AV → AH → Prop} {Y29327196 : List AV → AH → Prop} (h29327196 : Pt w0 PP F_strings_IndexRune F_strings_IndexRune.ntmps B_strings_IndexRune K 29327196 (fun ρ H => Y29327196 [ρ 0, ρ 7, ρ 8, ρ 9, ρ 14, ρ 15] H)) : Pt w0 PP F_strings_IndexRune F_strings_IndexRune.ntmps B_strings_IndexRune K 15015524644 (fun ρ H => LoopP (r_strings_IndexRune_p15015524644 K Y29327196) [ρ 0, ρ 7, ρ 8, ρ 9, ρ 14, ρ 15, ρ 16] H) :=
  Pt.loop (st := fun ρ => [ρ 0, ρ 7, ρ 8, ρ 9, ρ 14, ρ 15, ρ 16]) fun Y15015524644 h15015524644 => Pt.walk_eq (p := [false, false, true, false, false, true, false, false, true, false, false, true, true, true, false, true, false, true, true, true, true, true, true, true, false, true, true, true, true, true, true, false, true]) (ct := C_strings_IndexRune) (tab := [(15015524644, fun ρ H => Y15015524644 [ρ 0, ρ 7, ρ 8, ρ 9, ρ 14, ρ 15, ρ 16] H), (29327196, fun ρ H => Y29327196 [ρ 0, ρ 7, ρ 8, ρ 9, ρ 14, ρ 15] H), (117308787, fun ρ H => r_strings_IndexRune_p117308787 K Y29327196 (ρ 0) (ρ 7) (ρ 8) (ρ 9) (ρ 14) (ρ 15) H)])
    (C_strings_IndexRune_ok hw) PP_mixed B_strings_IndexRune_ok ⟨h15015524644, h29327196, s_strings_IndexRune_p117308787 hw h29327196, trivial⟩ (by kernel_rfl)
theorem s_strings_IndexRune_p29327196 {w0 : World} (hw : Base w0) {K : AV → AH → Prop} : Pt w0 PP F_strings_IndexRune F_strings_IndexRune.ntmps B_strings_IndexRune K 29327196 (fun ρ H => LoopP (r_strings_IndexRune_p29327196 K) [ρ 0, ρ 7, ρ 8, ρ 9, ρ 14, ρ 15] H) :=
  Pt.loop (st := fun ρ => [ρ 0, ρ 7, ρ 8, ρ 9, ρ 14, ρ 15]) fun Y29327196 h29327196 => Pt.walk_eq (p := [false, false, true, true, true, false, true, false, true, true, true, true, true, true, true, false, true, true, true, true, true, true, false, true]) (ct := C_strings_IndexRune) (tab := [(29327196, fun ρ H => Y29327196 [ρ 0, ρ 7, ρ 8, ρ 9, ρ 14, ρ 15] H), (229119, fun ρ H => r_strings_IndexRune_p229119 K H), (117308787, fun ρ H => r_strings_IndexRune_p117308787 K Y29327196 (ρ 0) (ρ 7) (ρ 8) (ρ 9) (ρ 14) (ρ 15) H), (15015524644, fun ρ H => LoopP (r_strings_IndexRune_p15015524644 K Y29327196) [ρ 0, ρ 7, ρ 8, ρ 9, ρ 14, ρ 15, ρ 16] H)])
    (C_strings_IndexRune_ok hw) PP_mixed B_strings_IndexRune_ok ⟨h29327196, s_strings_IndexRune_p229119 hw, s_strings_IndexRune_p117308787 hw h29327196, s_strings_IndexRune_p15015524644 hw h29327196, trivial⟩ (by kernel_rfl)
theorem s_strings_IndexRune_p114558 {w0 : World} (hw : Base w0) {K : AV → AH → Prop} : Pt w0 PP F_strings_IndexRune F_strings_IndexRune.ntmps B_strings_IndexRune K 114558 (fun ρ H => LoopP (r_strings_IndexRune_p114558 K) [ρ 0, ρ 1, ρ 7, ρ 8, ρ 9] H) :=
  Pt.loop (st := fun ρ => [ρ 0, ρ 1, ρ 7, ρ 8, ρ 9]) fun Y114558 h114558 => Pt.walk_eq (p := [false, true, true, true, true, true, true, false, true, true, true, true, true, true, false, true]) (ct := C_strings_IndexRune) (tab := [(114558, fun ρ H => Y114558 [ρ 0, ρ 1, ρ 7, ρ 8, ρ 9] H), (229119, fun ρ H => r_strings_IndexRune_p229119 K H), (29327196, fun ρ H => LoopP (r_strings_IndexRune_p29327196 K) [ρ 0, ρ 7, ρ 8, ρ 9, ρ 14, ρ 15] H)])
    (C_strings_IndexRune_ok hw) PP_mixed B_strings_IndexRune_ok ⟨h114558, s_strings_IndexRune_p229119 hw, s_strings_IndexRune_p29327196 hw, trivial⟩ (by kernel_rfl)
theorem s_strings_IndexRune_p14662734 {w0 : World} (hw : Base w0) {K : AV → AH → Prop} {Y114552 : List AV → AH → Prop} (h114552 : Pt w0 PP F_strings_IndexRune F_strings_IndexRune.ntmps B_strings_IndexRune K 114552 (fun ρ H => Y114552 [ρ 0, ρ 1, ρ 7, ρ 8, ρ 9, ρ 10] H)) : Pt w0 PP F_strings_IndexRune F_strings_IndexRune.ntmps B_strings_IndexRune K 14662734 (fun ρ H => LoopP (r_strings_IndexRune_p14662734 K Y114552) [ρ 0, ρ 1, ρ 7, ρ 8, ρ 9, ρ 10] H) :=
  Pt.loop (st := fun ρ => [ρ 0, ρ 1, ρ 7, ρ 8, ρ 9, ρ 10]) fun Y14662734 h14662734 => Pt.walk_eq (p := [false, true, true, true, false, false, true, false, false, false, true, true, true, true, false, true, true, true, true, true, true, false, true]) (ct := C_strings_IndexRune) (tab := [(14662734, fun ρ H => Y14662734 [ρ 0, ρ 1, ρ 7, ρ 8, ρ 9, ρ 10] H), (114552, fun ρ H => Y114552 [ρ 0, ρ 1, ρ 7, ρ 8, ρ 9, ρ 10] H), (114558, fun ρ H => LoopP (r_strings_IndexRune_p114558 K) [ρ 0, ρ 1, ρ 7, ρ 8, ρ 9] H)])
    (C_strings_IndexRune_ok hw) PP_mixed B_strings_IndexRune_ok ⟨h14662734, h114552, s_strings_IndexRune_p114558 hw, trivial⟩ (by kernel_rfl)
theorem s_strings_IndexRune_p29325460 {w0 : World} (hw : Base w0) {K : AV → AH → Prop} {Y114552 : List AV → AH → Prop} (h114552 : Pt w0 PP F_strings_IndexRune F_strings_IndexRune.ntmps B_strings_IndexRune K 114552 (fun ρ H => Y114552 [ρ 0, ρ 1, ρ 7, ρ 8, ρ 9, ρ 10] H)) : Pt w0 PP F_strings_IndexRune F_strings_IndexRune.ntmps B_strings_IndexRune K 29325460 (fun ρ H => LoopP (r_strings_IndexRune_p29325460 K Y114552) [ρ 0, ρ 1, ρ 7, ρ 8, ρ 9, ρ 10, ρ 12] H) :=
  Pt.loop (st := fun ρ => [ρ 0, ρ 1, ρ 7, ρ 8, ρ 9, ρ 10, ρ 12]) fun Y29325460 h29325460 => Pt.walk_eq (p := [false, false, true, false, true, false, false, true, false, false, false, true, true, true, true, false, true, true, true, true, true, true, false, true]) (ct := C_strings_IndexRune) (tab := [(29325460, fun ρ H => Y29325460 [ρ 0, ρ 1, ρ 7, ρ 8, ρ 9, ρ 10, ρ 12] H), (114552, fun ρ H => Y114552 [ρ 0, ρ 1, ρ 7, ρ 8, ρ 9, ρ 10] H), (14662734, fun ρ H => LoopP (r_strings_IndexRune_p14662734 K Y114552) [ρ 0, ρ 1, ρ 7, ρ 8, ρ 9, ρ 10] H)])
    (C_strings_IndexRune_ok hw) PP_mixed B_strings_IndexRune_ok ⟨h29325460, h114552, s_strings_IndexRune_p14662734 hw h114552, trivial⟩ (by kernel_rfl)
theorem s_strings_IndexRune_p1832841 {w0 : World} (hw : Base w0) {K : AV → AH → Prop} {Y114552 : List AV → AH → Prop} (h114552 : Pt w0 PP F_strings_IndexRune F_strings_IndexRune.ntmps B_strings_IndexRune K 114552 (fun ρ H => Y114552 [ρ 0, ρ 1, ρ 7, ρ 8, ρ 9, ρ 10] H)) : Pt w0 PP F_strings_IndexRune F_strings_IndexRune.ntmps B_strings_IndexRune K 1832841 (fun ρ H => r_strings_IndexRune_p1832841 K Y114552 (ρ 0) (ρ 1) (ρ 7) (ρ 8) (ρ 9) (ρ 10) H) :=
  Pt.walk_eq (p := [true, false, false, true, false, false, false, true, true, true, true, false, true, true, true, true, true, true, false, true]) (ct := C_strings_IndexRune) (tab := [(114552, fun ρ H => Y114552 [ρ 0, ρ 1, ρ 7, ρ 8, ρ 9, ρ 10] H), (29325460, fun ρ H => LoopP (r_strings_IndexRune_p29325460 K Y114552) [ρ 0, ρ 1, ρ 7, ρ 8, ρ 9, ρ 10, ρ 12] H)])
    (C_strings_IndexRune_ok hw) PP_mixed B_strings_IndexRune_ok ⟨h114552, s_strings_IndexRune_p29325460 hw h114552, trivial⟩ (by kernel_rfl)
theorem s_strings_IndexRune_p114552 {w0 : World} (hw : Base w0) {K : AV → AH → Prop} : Pt w0 PP F_strings_IndexRune F_strings_IndexRune.ntmps B_strings_IndexRune K 114552 (fun ρ H => LoopP (r_strings_IndexRune_p114552 K) [ρ 0, ρ 1, ρ 7, ρ 8, ρ 9, ρ 10] H) :=
  Pt.loop (st := fun ρ => [ρ 0, ρ 1, ρ 7, ρ 8, ρ 9, ρ 10]) fun Y114552 h114552 => Pt.walk_eq (p := [false, false, false, true, true, true, true, false, true, true, true, true, true, true, false, true]) (ct := C_strings_IndexRune) (tab := [(114552, fun ρ H => Y114552 [ρ 0, ρ 1, ρ 7, ρ 8, ρ 9, ρ 10] H), (1832841, fun ρ H => r_strings_IndexRune_p1832841 K Y114552 (ρ 0) (ρ 1) (ρ 7) (ρ 8) (ρ 9) (ρ 10) H)])
    (C_strings_IndexRune_ok hw) PP_mixed B_strings_IndexRune_ok ⟨h114552, s_strings_IndexRune_p1832841 hw h114552, trivial⟩ (by kernel_rfl)
theorem r_strings_IndexRune_ok {w0 : World} (hw : Base w0) : FnOk w0 PP 95 (r_strings_IndexRune) := ⟨⟨F_strings_IndexRune, by kernel_rfl, by kernel_rfl, by kernel_rfl⟩, sound_of_pt (fn := F_strings_IndexRune) (body := B_strings_IndexRune) (n := 2) (by kernel_rfl) (by kernel_rfl)
  (fun args H K h => by unfold r_strings_IndexRune at h; split at h; rfl; exact h.elim) fun K => Pt.walk_eq (p := []) (ct := C_strings_IndexRune) (tab := [(1764, fun ρ H => LoopP (r_strings_IndexRune_p1764 K) [ρ 175] H), (114552, fun ρ H => LoopP (r_strings_IndexRune_p114552 K) [ρ 0, ρ 1, ρ 7, ρ 8, ρ 9, ρ 10] H)])
    (C_strings_IndexRune_ok hw) PP_mixed B_strings_IndexRune_ok ⟨s_strings_IndexRune_p1764 hw, s_strings_IndexRune_p114552 hw, trivial⟩ (by kernel_rfl)⟩

abbrev k_strings_ContainsRune : Nat := 71
-- strings.ContainsRune
noncomputable abbrev F_strings_ContainsRune : Func := Go.Proofs.Tryz.f71
noncomputable def B_strings_ContainsRune : Code := (F_strings_ContainsRune.body).getD .skip
def C_strings_ContainsRune : Table := tableOf [(95, r_strings_IndexRune)]
theorem C_strings_ContainsRune_ok {w0 : World} (hw : Base w0) : (C_strings_ContainsRune).Ok w0 PP := TableOk.ok (w0 := w0) (P := PP) (l := [(95, r_strings_IndexRune)]) ⟨(r_strings_IndexRune_ok hw).call, trivial⟩
theorem B_strings_ContainsRune_ok : codeOk F_strings_ContainsRune.ntmps B_strings_ContainsRune = true := by kernel_rfl
def r_strings_ContainsRune : AFn := fun args H K => match args with
| [t0, t1] =>
  r_strings_IndexRune [t0, t1] H fun t7u1 H_2 =>
  bnd (abin PP .geq 3 t7u1 (.int .i64 0)) fun t8u3 =>
  K t8u3 H_2
| _ => False
theorem r_strings_ContainsRune_ok {w0 : World} (hw : Base w0) : FnOk w0 PP 71 (r_strings_ContainsRune) := ⟨⟨F_strings_ContainsRune, by kernel_rfl, by kernel_rfl, by kernel_rfl⟩, sound_of_pt (fn := F_strings_ContainsRune) (body := B_strings_ContainsRune) (n := 2) (by kernel_rfl) (by kernel_rfl)
  (fun args H K h => by unfold r_strings_ContainsRune at h; split at h; rfl; exact h.elim) fun K => Pt.walk_eq (p := []) (ct := C_strings_ContainsRune) (tab := [])
    (C_strings_ContainsRune_ok hw) PP_mixed B_strings_ContainsRune_ok trivial (by kernel_rfl)⟩

abbrev k_slices_IndexFunc_api_Item_api_Item : Nat := 118
-- slices.IndexFunc[[]hostler/api.Item,hostler/api.Item]
noncomputable abbrev F_slices_IndexFunc_api_Item_api_Item : Func := Go.Proofs.Tryz.f118
noncomputable def B_slices_IndexFunc_api_Item_api_Item : Code := (F_slices_IndexFunc_api_Item_api_Item.body).getD .skip
def C_slices_IndexFunc_api_Item_api_Item (ct : Tab) : Table := tableOr ct []
theorem C_slices_IndexFunc_api_Item_api_Item_ok {w0 : World} (hw : Base w0) {ct : Tab} (hct : ct.Ok w0 PP) : (C_slices_IndexFunc_api_Item_api_Item ct).Ok w0 PP := tableOr_ok hct trivial
theorem B_slices_IndexFunc_api_Item_api_Item_ok : codeOk F_slices_IndexFunc_api_Item_api_Item.ntmps B_slices_IndexFunc_api_Item_api_Item = true := by kernel_rfl
def r_slices_IndexFunc_api_Item_api_Item_p52 (ct : Tab) (K : AV → AH → Prop) (Y52 : List AV → AH → Prop) (s : List AV) (H : AH) : Prop := match s with
| [t0, t1, t7, t8] =>
  bnd (abin PP .lss 3 t8 t7) fun t9u2 =>
  branch t9u2 (
  bnd (idxA 2 t0 t8) fun t14u3 =>
  bnd (ldN 2 t14u3 H) fun t15u4 =>
  acallv ct t1 [t15u4] H fun t16u5 H_6 =>
  branch t16u5 (
  K t8 H_6) (
  bnd (abin PP .add 3 t8 (.int .i64 1)) fun t18u7 =>
  Y52 [t0, t1, t7, t18u7] H_6)) (
  K (.int .i64 (-1)) H)
| _ => False
def r_slices_IndexFunc_api_Item_api_Item (ct : Tab) : AFn := fun args H K => match args with
| [t0, t1] =>
  bnd (lenSl t0) fun t7u1 =>
  LoopP (r_slices_IndexFunc_api_Item_api_Item_p52 ct K) [t0, t1, t7u1, (.int .i64 0)] H
| _ => False
theorem s_slices_IndexFunc_api_Item_api_Item_p52 {w0 : World} (hw : Base w0) {ct : Tab} (hct : ct.Ok w0 PP) {K : AV → AH → Prop} : Pt w0 PP F_slices_IndexFunc_api_Item_api_Item F_slices_IndexFunc_api_Item_api_Item.ntmps B_slices_IndexFunc_api_Item_api_Item K 52 (fun ρ H => LoopP (r_slices_IndexFunc_api_Item_api_Item_p52 ct K) [ρ 0, ρ 1, ρ 7, ρ 8] H) :=
  Pt.loop (st := fun ρ => [ρ 0, ρ 1, ρ 7, ρ 8]) fun Y52 h52 => Pt.walk_eq (p := [false, false, true, false, true]) (ct := C_slices_IndexFunc_api_Item_api_Item ct) (tab := [(52, fun ρ H => Y52 [ρ 0, ρ 1, ρ 7, ρ 8] H)])
    (C_slices_IndexFunc_api_Item_api_Item_ok hw hct) PP_mixed B_slices_IndexFunc_api_Item_api_Item_ok ⟨h52, trivial⟩ (by kernel_rfl)
theorem r_slices_IndexFunc_api_Item_api_Item_ok {w0 : World} (hw : Base w0) {ct : Tab} (hct : ct.Ok w0 PP) : FnOk w0 PP 118 (r_slices_IndexFunc_api_Item_api_Item ct) := ⟨⟨F_slices_IndexFunc_api_Item_api_Item, by kernel_rfl, by kernel_rfl, by kernel_rfl⟩, sound_of_pt (fn := F_slices_IndexFunc_api_Item_api_Item) (body := B_slices_IndexFunc_api_Item_api_Item) (n := 2) (by kernel_rfl) (by kernel_rfl)
  (fun args H K h => by unfold r_slices_IndexFunc_api_Item_api_Item at h; split at h; rfl; exact h.elim) fun K => Pt.walk_eq (p := []) (ct := C_slices_IndexFunc_api_Item_api_Item ct) (tab := [(52, fun ρ H => LoopP (r_slices_IndexFunc_api_Item_api_Item_p52 ct K) [ρ 0, ρ 1, ρ 7, ρ 8] H)])
    (C_slices_IndexFunc_api_Item_api_Item_ok hw hct) PP_mixed B_slices_IndexFunc_api_Item_api_Item_ok ⟨s_slices_IndexFunc_api_Item_api_Item_p52 hw hct, trivial⟩ (by kernel_rfl)⟩

abbrev k_slices_ContainsFunc_api_Item_api_Item : Nat := 97
-- slices.ContainsFunc[[]hostler/api.Item,hostler/api.Item]
noncomputable abbrev F_slices_ContainsFunc_api_Item_api_Item : Func := Go.Proofs.Tryz.f97
noncomputable def B_slices_ContainsFunc_api_Item_api_Item : Code := (F_slices_ContainsFunc_api_Item_api_Item.body).getD .skip
def C_slices_ContainsFunc_api_Item_api_Item (ct : Tab) : Table := tableOr ct [(118, (r_slices_IndexFunc_api_Item_api_Item ct))]
theorem C_slices_ContainsFunc_api_Item_api_Item_ok {w0 : World} (hw : Base w0) {ct : Tab} (hct : ct.Ok w0 PP) : (C_slices_ContainsFunc_api_Item_api_Item ct).Ok w0 PP := tableOr_ok hct ⟨(r_slices_IndexFunc_api_Item_api_Item_ok hw hct).call, trivial⟩
theorem B_slices_ContainsFunc_api_Item_api_Item_ok : codeOk F_slices_ContainsFunc_api_Item_api_Item.ntmps B_slices_ContainsFunc_api_Item_api_Item = true := by kernel_rfl
def r_slices_ContainsFunc_api_Item_api_Item (ct : Tab) : AFn := fun args H K => match args with
| [t0, t1] =>
(r_slices_IndexFunc_api_Item_api_Item ct) [t0, t1] H fun t7u1 H_2 =>
  bnd (abin PP .geq 3 t7u1 (.int .i64 0)) fun t8u3 =>
  K t8u3 H_2
| _ => False
theorem r_slices_ContainsFunc_api_Item_api_Item_ok {w0 : World} (hw : Base w0) {ct : Tab} (hct : ct.Ok w0 PP) : FnOk w0 PP 97 (r_slices_ContainsFunc_api_Item_api_Item ct) := ⟨⟨F_slices_ContainsFunc_api_Item_api_Item, by kernel_rfl, by kernel_rfl, by kernel_rfl⟩, sound_of_pt (fn := F_slices_ContainsFunc_api_Item_api_Item) (body := B_slices_ContainsFunc_api_Item_api_Item) (n := 2) (by kernel_rfl) (by kernel_rfl)
  (fun args H K h => by unfold r_slices_ContainsFunc_api_Item_api_Item at h; split at h; rfl; exact h.elim) fun K => Pt.walk_eq (p := []) (ct := C_slices_ContainsFunc_api_Item_api_Item ct) (tab := [])
    (C_slices_ContainsFunc_api_Item_api_Item_ok hw hct) PP_mixed B_slices_ContainsFunc_api_Item_api_Item_ok trivial (by kernel_rfl)⟩

abbrev k_i_strconv_ParseInt : Nat := 80
def r_i_strconv_ParseInt : AFn := fun _ _ _ => False
theorem r_i_strconv_ParseInt_ok {w0 : World} (hw : Base w0) : NatOk w0 PP 80 r_i_strconv_ParseInt := ⟨fun _ _ _ h => h.elim⟩

abbrev k_i_strconv_Atoi : Nat := 49
-- internal/strconv.Atoi
noncomputable abbrev F_i_strconv_Atoi : Func := Go.Proofs.Tryz.f49
noncomputable def B_i_strconv_Atoi : Code := (F_i_strconv_Atoi.body).getD .skip
def C_i_strconv_Atoi : Table := tableOf [(80, r_i_strconv_ParseInt)]
theorem C_i_strconv_Atoi_ok {w0 : World} (hw : Base w0) : (C_i_strconv_Atoi).Ok w0 PP := TableOk.ok (w0 := w0) (P := PP) (l := [(80, r_i_strconv_ParseInt)]) ⟨(r_i_strconv_ParseInt_ok hw).call, trivial⟩
theorem B_i_strconv_Atoi_ok : codeOk F_i_strconv_Atoi.ntmps B_i_strconv_Atoi = true := by kernel_rfl
def r_i_strconv_Atoi_p1887 (K : AV → AH → Prop) (t6 : AV) (H : AH) : Prop :=
  K (.tup [t6, (.nili)]) H
def r_i_strconv_Atoi_p7540 (K : AV → AH → Prop) (Y7540 : List AV → AH → Prop) (s : List AV) (H : AH) : Prop := match s with
| [t5, t6, t47, t48, t49] =>
  bnd (abin PP .lss 3 t49 t48) fun t50u72 =>
  branch t50u72 (
  bnd (idxA 1 t47 t49) fun t51u73 =>
  bnd (ld1 t51u73 H) fun t52u74 =>
  bnd (abin PP .sub 5 t52u74 (.int .u8 48)) fun t54u75 =>
  bnd (abin PP .gtr 5 t54u75 (.int .u8 9)) fun t56u76 =>
  branch t56u76 (
  K (.tup [(.int .i64 0), (.iface 134 (.int .i64 2))]) H) (
  bnd (abin PP .mul 3 t6 (.int .i64 10)) fun t59u77 =>
  bnd (convR (.int .u8) (.int .i64) t54u75) fun t61u78 =>
  bnd (abin PP .add 3 t59u77 t61u78) fun t62u79 =>
  bnd (abin PP .add 3 t49 (.int .i64 1)) fun t63u80 =>
  Y7540 [t5, t62u79, t47, t48, t63u80] H)) (
  bnd (idxStr t5 (.int .i64 0)) fun t65u81 =>
  bnd (abin PP .eql 5 t65u81 (.int .u8 45)) fun t66u82 =>
  branch t66u82 (
  bnd (aun .neg t6) fun t68u83 =>
  r_i_strconv_Atoi_p1887 K t68u83 H) (
  r_i_strconv_Atoi_p1887 K t6 H))
| _ => False
def r_i_strconv_Atoi_p235 (K : AV → AH → Prop) (t0 : AV) (t5 : AV) (H : AH) : Prop :=
  bnd (strBytes t0) fun t47u70 =>
  bnd (lenSl t47u70) fun t48u71 =>
  LoopP (r_i_strconv_Atoi_p7540 K) [t5, (.int .i64 0), t47u70, t48u71, (.int .i64 0)] H
def r_i_strconv_Atoi : AFn := fun args H K => match args with
| [t0] =>
  bnd (lenStr t0) fun t12u1 =>
  aguard (gwant true (.bool false)) (fun k_4 =>
  k_4 t12u1 H) H fun t14u2 H_3 =>
  aguard (gwant true (.bool false)) (fun k_7 =>
  bnd (abin PP .lss 3 (.int .i64 0) t14u2) fun t15u8 =>
  k_7 t15u8 H_3) H_3 fun t15u5 H_6 =>
  aguard (gwant true (.bool false)) (fun k_11 =>
  k_11 t15u5 H_6) H_6 fun t16u9 H_10 =>
  aguard (gwant true t16u9) (fun k_14 =>
  k_14 t12u1 H_10) H_10 fun t17u12 H_13 =>
  aguard (gwant true t16u9) (fun k_17 =>
  bnd (abin PP .lss 3 t17u12 (.int .i64 10)) fun t18u18 =>
  k_17 t18u18 H_13) H_13 fun t18u15 H_16 =>
  aguard (gwant true (.bool false)) (fun k_21 =>
  bnd (pickV t16u9 t18u15 (.bool false)) fun t19u22 =>
  k_21 t19u22 H_16) H_16 fun t19u19 H_20 =>
  bnd (pickV (.bool false) t19u19 (.bool false)) fun t20u23 =>
  aguard (gwant false t20u23) (fun k_26 =>
  k_26 (.bool true) H_20) H_20 fun t22u24 H_25 =>
  aguard (gwant true t22u24) (fun k_29 =>
  k_29 t12u1 H_25) H_25 fun t23u27 H_28 =>
  aguard (gwant true t22u24) (fun k_32 =>
  bnd (abin PP .lss 3 (.int .i64 0) t23u27) fun t24u33 =>
  k_32 t24u33 H_28) H_28 fun t24u30 H_31 =>
  aguard (gwant true t22u24) (fun k_36 =>
  k_36 t24u30 H_31) H_31 fun t25u34 H_35 =>
  aguard (gwant true t25u34) (fun k_39 =>
  k_39 t12u1 H_35) H_35 fun t26u37 H_38 =>
  aguard (gwant true t25u34) (fun k_42 =>
  bnd (abin PP .lss 3 t26u37 (.int .i64 19)) fun t27u43 =>
  k_42 t27u43 H_38) H_38 fun t27u40 H_41 =>
  aguard (gwant true t22u24) (fun k_46 =>
  bnd (pickV t25u34 t27u40 (.bool false)) fun t28u47 =>
  k_46 t28u47 H_41) H_41 fun t28u44 H_45 =>
  aguard (gwant false t20u23) (fun k_50 =>
  bnd (pickV t22u24 t28u44 (.bool false)) fun t29u51 =>
  k_50 t29u51 H_45) H_45 fun t29u48 H_49 =>
  bnd (pickV t20u23 (.bool true) t29u48) fun t30u52 =>
  branch t30u52 (
  bnd (idxStr t0 (.int .i64 0)) fun t33u53 =>
  bnd (abin PP .eql 5 t33u53 (.int .u8 45)) fun t34u54 =>
  aguard (gwant false t34u54) (fun k_57 =>
  k_57 t0 H_49) H_49 fun t36u55 H_56 =>
  aguard (gwant false t34u54) (fun k_60 =>
  bnd (idxStr t36u55 (.int .i64 0)) fun t37u61 =>
  k_60 t37u61 H_56) H_56 fun t37u58 H_59 =>
  aguard (gwant false t34u54) (fun k_64 =>
  bnd (abin PP .eql 5 t37u58 (.int .u8 43)) fun t38u65 =>
  k_64 t38u65 H_59) H_59 fun t38u62 H_63 =>
  bnd (pickV t34u54 (.bool true) t38u62) fun t39u66 =>
  branch t39u66 (
  bnd (sliceStr t0 (some (.int .i64 1)) none none) fun t41u67 =>
  bnd (lenStr t41u67) fun t43u68 =>
  bnd (abin PP .lss 3 t43u68 (.int .i64 1)) fun t44u69 =>
  branch t44u69 (
  K (.tup [(.int .i64 0), (.iface 134 (.int .i64 2))]) H_63) (
  r_i_strconv_Atoi_p235 K t41u67 t0 H_63)) (
  r_i_strconv_Atoi_p235 K t0 t0 H_63)) (
  r_i_strconv_ParseInt [t0, (.int .i64 10), (.int .i64 0)] H_49 fun t72u84 H_85 =>
  bnd (aextract t72u84 0) fun t73u86 =>
  bnd (aextract t72u84 1) fun t74u87 =>
  K (.tup [t73u86, t74u87]) H_85)
| _ => False
theorem s_i_strconv_Atoi_p1887 {w0 : World} (hw : Base w0) {K : AV → AH → Prop} : Pt w0 PP F_i_strconv_Atoi F_i_strconv_Atoi.ntmps B_i_strconv_Atoi K 1887 (fun ρ H => r_i_strconv_Atoi_p1887 K (ρ 6) H) :=
  Pt.walk_eq (p := [true, true, true, true, true, false, true, false, true, true]) (ct := C_i_strconv_Atoi) (tab := [])
    (C_i_strconv_Atoi_ok hw) PP_mixed B_i_strconv_Atoi_ok trivial (by kernel_rfl)
theorem s_i_strconv_Atoi_p7540 {w0 : World} (hw : Base w0) {K : AV → AH → Prop} : Pt w0 PP F_i_strconv_Atoi F_i_strconv_Atoi.ntmps B_i_strconv_Atoi K 7540 (fun ρ H => LoopP (r_i_strconv_Atoi_p7540 K) [ρ 5, ρ 6, ρ 47, ρ 48, ρ 49] H) :=
  Pt.loop (st := fun ρ => [ρ 5, ρ 6, ρ 47, ρ 48, ρ 49]) fun Y7540 h7540 => Pt.walk_eq (p := [false, false, true, false, true, true, true, false, true, false, true, true]) (ct := C_i_strconv_Atoi) (tab := [(7540, fun ρ H => Y7540 [ρ 5, ρ 6, ρ 47, ρ 48, ρ 49] H), (1887, fun ρ H => r_i_strconv_Atoi_p1887 K (ρ 6) H)])
    (C_i_strconv_Atoi_ok hw) PP_mixed B_i_strconv_Atoi_ok ⟨h7540, s_i_strconv_Atoi_p1887 hw, trivial⟩ (by kernel_rfl)
theorem s_i_strconv_Atoi_p235 {w0 : World} (hw : Base w0) {K : AV → AH → Prop} : Pt w0 PP F_i_strconv_Atoi F_i_strconv_Atoi.ntmps B_i_strconv_Atoi K 235 (fun ρ H => r_i_strconv_Atoi_p235 K (ρ 0) (ρ 5) H) :=
  Pt.walk_eq (p := [true, true, false, true, false, true, true]) (ct := C_i_strconv_Atoi) (tab := [(7540, fun ρ H => LoopP (r_i_strconv_Atoi_p7540 K) [ρ 5, ρ 6, ρ 47, ρ 48, ρ 49] H)])
    (C_i_strconv_Atoi_ok hw) PP_mixed B_i_strconv_Atoi_ok ⟨s_i_strconv_Atoi_p7540 hw, trivial⟩ (by kernel_rfl)
theorem r_i_strconv_Atoi_ok {w0 : World} (hw : Base w0) : FnOk w0 PP 49 (r_i_strconv_Atoi) := ⟨⟨F_i_strconv_Atoi, by kernel_rfl, by kernel_rfl, by kernel_rfl⟩, sound_of_pt (fn := F_i_strconv_Atoi) (body := B_i_strconv_Atoi) (n := 1) (by kernel_rfl) (by kernel_rfl)
  (fun args H K h => by unfold r_i_strconv_Atoi at h; split at h; rfl; exact h.elim) fun K => Pt.walk_eq (p := []) (ct := C_i_strconv_Atoi) (tab := [(235, fun ρ H => r_i_strconv_Atoi_p235 K (ρ 0) (ρ 5) H)])
    (C_i_strconv_Atoi_ok hw) PP_mixed B_i_strconv_Atoi_ok ⟨s_i_strconv_Atoi_p235 hw, trivial⟩ (by kernel_rfl)⟩

abbrev k_strconv_toError : Nat := 50
def r_strconv_toError : AFn := fun _ _ _ => False
theorem r_strconv_toError_ok {w0 : World} (hw : Base w0) : NatOk w0 PP 50 r_strconv_toError := ⟨fun _ _ _ h => h.elim⟩

abbrev k_strconv_Atoi : Nat := 24
-- strconv.Atoi
noncomputable abbrev F_strconv_Atoi : Func := Go.Proofs.Tryz.f24
noncomputable def B_strconv_Atoi : Code := (F_strconv_Atoi.body).getD .skip
def C_strconv_Atoi : Table := tableOf [(49, r_i_strconv_Atoi), (50, r_strconv_toError)]
theorem C_strconv_Atoi_ok {w0 : World} (hw : Base w0) : (C_strconv_Atoi).Ok w0 PP := TableOk.ok (w0 := w0) (P := PP) (l := [(49, r_i_strconv_Atoi), (50, r_strconv_toError)]) ⟨(r_i_strconv_Atoi_ok hw).call, (r_strconv_toError_ok hw).call, trivial⟩
theorem B_strconv_Atoi_ok : codeOk F_strconv_Atoi.ntmps B_strconv_Atoi = true := by kernel_rfl
def r_strconv_Atoi : AFn := fun args H K => match args with
| [t0] =>
  r_i_strconv_Atoi [t0] H fun t8u1 H_2 =>
  bnd (aextract t8u1 0) fun t9u3 =>
  bnd (aextract t8u1 1) fun t10u4 =>
  bnd (cmpNil .i .neq t10u4) fun t12u5 =>
  branch t12u5 (
  r_strconv_toError [(.str [65, 116, 111, 105]), t0, (.int .i64 0), (.int .i64 0), t10u4] H_2 fun t16u6 H_7 =>
  K (.tup [t9u3, t16u6]) H_7) (
  K (.tup [t9u3, (.nili)]) H_2)
| _ => False
theorem r_strconv_Atoi_ok {w0 : World} (hw : Base w0) : FnOk w0 PP 24 (r_strconv_Atoi) := ⟨⟨F_strconv_Atoi, by kernel_rfl, by kernel_rfl, by kernel_rfl⟩, sound_of_pt (fn := F_strconv_Atoi) (body := B_strconv_Atoi) (n := 1) (by kernel_rfl) (by kernel_rfl)
  (fun args H K h => by unfold r_strconv_Atoi at h; split at h; rfl; exact h.elim) fun K => Pt.walk_eq (p := []) (ct := C_strconv_Atoi) (tab := [])
    (C_strconv_Atoi_ok hw) PP_mixed B_strconv_Atoi_ok trivial (by kernel_rfl)⟩

abbrev k_strings_trimLeftByte : Nat := 42
def r_strings_trimLeftByte : AFn := fun _ _ _ => False
theorem r_strings_trimLeftByte_ok {w0 : World} (hw : Base w0) : NatOk w0 PP 42 r_strings_trimLeftByte := ⟨fun _ _ _ h => h.elim⟩

abbrev k_strings_trimRightByte : Nat := 43
def r_strings_trimRightByte : AFn := fun _ _ _ => False
theorem r_strings_trimRightByte_ok {w0 : World} (hw : Base w0) : NatOk w0 PP 43 r_strings_trimRightByte := ⟨fun _ _ _ h => h.elim⟩

abbrev k_strings_trimLeftUnicode : Nat := 47
def r_strings_trimLeftUnicode : AFn := fun _ _ _ => False
theorem r_strings_trimLeftUnicode_ok {w0 : World} (hw : Base w0) : NatOk w0 PP 47 r_strings_trimLeftUnicode := ⟨fun _ _ _ h => h.elim⟩

abbrev k_strings_trimRightUnicode : Nat := 48
def r_strings_trimRightUnicode : AFn := fun _ _ _ => False
theorem r_strings_trimRightUnicode_ok {w0 : World} (hw : Base w0) : NatOk w0 PP 48 r_strings_trimRightUnicode := ⟨fun _ _ _ h => h.elim⟩

abbrev k_strings_asciiSet_contains : Nat := 77
-- (*strings.asciiSet).contains
noncomputable abbrev F_strings_asciiSet_contains : Func := Go.Proofs.Tryz.f77
noncomputable def B_strings_asciiSet_contains : Code := (F_strings_asciiSet_contains.body).getD .skip
def C_strings_asciiSet_contains : Table := tableOf []
theorem C_strings_asciiSet_contains_ok {w0 : World} (hw : Base w0) : (C_strings_asciiSet_contains).Ok w0 PP := TableOk.ok (w0 := w0) (P := PP) (l := []) trivial
theorem B_strings_asciiSet_contains_ok : codeOk F_strings_asciiSet_contains.ntmps B_strings_asciiSet_contains = true := by kernel_rfl
def r_strings_asciiSet_contains : AFn := fun args H K => match args with
| [t0, t1] =>
  bnd (nilck t0) fun t7u1 =>
  bnd (idxP 256 1 t7u1 t1) fun t8u2 =>
  bnd (ld1 t8u2 H) fun t9u3 =>
  K t9u3 H
| _ => False
theorem r_strings_asciiSet_contains_ok {w0 : World} (hw : Base w0) : FnOk w0 PP 77 (r_strings_asciiSet_contains) := ⟨⟨F_strings_asciiSet_contains, by kernel_rfl, by kernel_rfl, by kernel_rfl⟩, sound_of_pt (fn := F_strings_asciiSet_contains) (body := B_strings_asciiSet_contains) (n := 2) (by kernel_rfl) (by kernel_rfl)
  (fun args H K h => by unfold r_strings_asciiSet_contains at h; split at h; rfl; exact h.elim) fun K => Pt.walk_eq (p := []) (ct := C_strings_asciiSet_contains) (tab := [])
    (C_strings_asciiSet_contains_ok hw) PP_mixed B_strings_asciiSet_contains_ok trivial (by kernel_rfl)⟩

abbrev k_strings_makeASCIISet : Nat := 44
-- strings.makeASCIISet
noncomputable abbrev F_strings_makeASCIISet : Func := Go.Proofs.Tryz.f44
noncomputable def B_strings_makeASCIISet : Code := (F_strings_makeASCIISet.body).getD .skip
def C_strings_makeASCIISet : Table := tableOf []
theorem C_strings_makeASCIISet_ok {w0 : World} (hw : Base w0) : (C_strings_makeASCIISet).Ok w0 PP := TableOk.ok (w0 := w0) (P := PP) (l := []) trivial
theorem B_strings_makeASCIISet_ok : codeOk F_strings_makeASCIISet.ntmps B_strings_makeASCIISet = true := by kernel_rfl
def r_strings_makeASCIISet_p52 (K : AV → AH → Prop) (Y52 : List AV → AH → Prop) (s : List AV) (H : AH) : Prop := match s with
| [t0, t2, t4] =>
  bnd (lenStr t0) fun t8u3 =>
  bnd (abin PP .lss 3 t4 t8u3) fun t9u4 =>
  branch t9u4 (
  bnd (idxStr t0 t4) fun t14u5 =>
  bnd (abin PP .geq 5 t14u5 (.int .u8 128)) fun t16u6 =>
  branch t16u6 (
  bnd (ldN 256 t2 H) fun t17u7 =>
  bnd (ast 256 t2 t17u7 H) fun H_8 =>
  bnd (ldN 256 t2 H_8) fun v_9 =>
  K (.tup [v_9, (.bool false)]) H_8) (
  bnd (idxP 256 1 t2 t14u5) fun t19u10 =>
  bnd (ast 1 t19u10 (.bool true) H) fun H_11 =>
  bnd (abin PP .add 3 t4 (.int .i64 1)) fun t11u12 =>
  Y52 [t0, t2, t11u12] H_11)) (
  bnd (ldN 256 t2 H) fun t20u13 =>
  bnd (ast 256 t2 t20u13 H) fun H_14 =>
  bnd (ldN 256 t2 H_14) fun v_15 =>
  K (.tup [v_15, (.bool true)]) H_14)
| _ => False
def r_strings_makeASCIISet : AFn := fun args H K => match args with
| [t0] =>
(fun (t2u1 : AV) (H_2 : AH) =>
  LoopP (r_strings_makeASCIISet_p52 K) [t0, t2u1, (.int .i64 0)] H_2) (.ptr H.next 0) (H.add (.cells (List.replicate 256 (.bool false))))
| _ => False
theorem s_strings_makeASCIISet_p52 {w0 : World} (hw : Base w0) {K : AV → AH → Prop} : Pt w0 PP F_strings_makeASCIISet F_strings_makeASCIISet.ntmps B_strings_makeASCIISet K 52 (fun ρ H => LoopP (r_strings_makeASCIISet_p52 K) [ρ 0, ρ 2, ρ 4] H) :=
  Pt.loop (st := fun ρ => [ρ 0, ρ 2, ρ 4]) fun Y52 h52 => Pt.walk_eq (p := [false, false, true, false, true]) (ct := C_strings_makeASCIISet) (tab := [(52, fun ρ H => Y52 [ρ 0, ρ 2, ρ 4] H)])
    (C_strings_makeASCIISet_ok hw) PP_mixed B_strings_makeASCIISet_ok ⟨h52, trivial⟩ (by kernel_rfl)
theorem r_strings_makeASCIISet_ok {w0 : World} (hw : Base w0) : FnOk w0 PP 44 (r_strings_makeASCIISet) := ⟨⟨F_strings_makeASCIISet, by kernel_rfl, by kernel_rfl, by kernel_rfl⟩, sound_of_pt (fn := F_strings_makeASCIISet) (body := B_strings_makeASCIISet) (n := 1) (by kernel_rfl) (by kernel_rfl)
  (fun args H K h => by unfold r_strings_makeASCIISet at h; split at h; rfl; exact h.elim) fun K => Pt.walk_eq (p := []) (ct := C_strings_makeASCIISet) (tab := [(52, fun ρ H => LoopP (r_strings_makeASCIISet_p52 K) [ρ 0, ρ 2, ρ 4] H)])
    (C_strings_makeASCIISet_ok hw) PP_mixed B_strings_makeASCIISet_ok ⟨s_strings_makeASCIISet_p52 hw, trivial⟩ (by kernel_rfl)⟩

abbrev k_strings_trimLeftASCII : Nat := 45
-- strings.trimLeftASCII
noncomputable abbrev F_strings_trimLeftASCII : Func := Go.Proofs.Tryz.f45
noncomputable def B_strings_trimLeftASCII : Code := (F_strings_trimLeftASCII.body).getD .skip
def C_strings_trimLeftASCII : Table := tableOf [(77, r_strings_asciiSet_contains)]
theorem C_strings_trimLeftASCII_ok {w0 : World} (hw : Base w0) : (C_strings_trimLeftASCII).Ok w0 PP := TableOk.ok (w0 := w0) (P := PP) (l := [(77, r_strings_asciiSet_contains)]) ⟨(r_strings_asciiSet_contains_ok hw).call, trivial⟩
theorem B_strings_trimLeftASCII_ok : codeOk F_strings_trimLeftASCII.ntmps B_strings_trimLeftASCII = true := by kernel_rfl
def r_strings_trimLeftASCII_p7 (K : AV → AH → Prop) (t0 : AV) (H : AH) : Prop :=
  K t0 H
def r_strings_trimLeftASCII_p24 (K : AV → AH → Prop) (Y24 : List AV → AH → Prop) (s : List AV) (H : AH) : Prop := match s with
| [t0, t1] =>
  bnd (lenStr t0) fun t6u1 =>
  bnd (abin PP .gtr 3 t6u1 (.int .i64 0)) fun t7u2 =>
  branch t7u2 (
  bnd (idxStr t0 (.int .i64 0)) fun t10u3 =>
  r_strings_asciiSet_contains [t1, t10u3] H fun t11u4 H_5 =>
  bnd (aun .not t11u4) fun t12u6 =>
  branch t12u6 (
  r_strings_trimLeftASCII_p7 K t0 H_5) (
  bnd (sliceStr t0 (some (.int .i64 1)) none none) fun t14u7 =>
  Y24 [t14u7, t1] H_5)) (
  r_strings_trimLeftASCII_p7 K t0 H)
| _ => False
def r_strings_trimLeftASCII : AFn := fun args H K => match args with
| [t0, t1] =>
  LoopP (r_strings_trimLeftASCII_p24 K) [t0, t1] H
| _ => False
theorem s_strings_trimLeftASCII_p7 {w0 : World} (hw : Base w0) {K : AV → AH → Prop} : Pt w0 PP F_strings_trimLeftASCII F_strings_trimLeftASCII.ntmps B_strings_trimLeftASCII K 7 (fun ρ H => r_strings_trimLeftASCII_p7 K (ρ 0) H) :=
  Pt.walk_eq (p := [true, true]) (ct := C_strings_trimLeftASCII) (tab := [])
    (C_strings_trimLeftASCII_ok hw) PP_mixed B_strings_trimLeftASCII_ok trivial (by kernel_rfl)
theorem s_strings_trimLeftASCII_p24 {w0 : World} (hw : Base w0) {K : AV → AH → Prop} : Pt w0 PP F_strings_trimLeftASCII F_strings_trimLeftASCII.ntmps B_strings_trimLeftASCII K 24 (fun ρ H => LoopP (r_strings_trimLeftASCII_p24 K) [ρ 0, ρ 1] H) :=
  Pt.loop (st := fun ρ => [ρ 0, ρ 1]) fun Y24 h24 => Pt.walk_eq (p := [false, false, false, true]) (ct := C_strings_trimLeftASCII) (tab := [(24, fun ρ H => Y24 [ρ 0, ρ 1] H), (7, fun ρ H => r_strings_trimLeftASCII_p7 K (ρ 0) H)])
    (C_strings_trimLeftASCII_ok hw) PP_mixed B_strings_trimLeftASCII_ok ⟨h24, s_strings_trimLeftASCII_p7 hw, trivial⟩ (by kernel_rfl)
theorem r_strings_trimLeftASCII_ok {w0 : World} (hw : Base w0) : FnOk w0 PP 45 (r_strings_trimLeftASCII) := ⟨⟨F_strings_trimLeftASCII, by kernel_rfl, by kernel_rfl, by kernel_rfl⟩, sound_of_pt (fn := F_strings_trimLeftASCII) (body := B_strings_trimLeftASCII) (n := 2) (by kernel_rfl) (by kernel_rfl)
  (fun args H K h => by unfold r_strings_trimLeftASCII at h; split at h; rfl; exact h.elim) fun K => Pt.walk_eq (p := []) (ct := C_strings_trimLeftASCII) (tab := [(24, fun ρ H => LoopP (r_strings_trimLeftASCII_p24 K) [ρ 0, ρ 1] H)])
    (C_strings_trimLeftASCII_ok hw) PP_mixed B_strings_trimLeftASCII_ok ⟨s_strings_trimLeftASCII_p24 hw, trivial⟩ (by kernel_rfl)⟩

abbrev k_strings_trimRightASCII : Nat := 46
-- strings.trimRightASCII
noncomputable abbrev F_strings_trimRightASCII : Func := Go.Proofs.Tryz.f46
noncomputable def B_strings_trimRightASCII : Code := (F_strings_trimRightASCII.body).getD .skip
def C_strings_trimRightASCII : Table := tableOf [(77, r_strings_asciiSet_contains)]
theorem C_strings_trimRightASCII_ok {w0 : World} (hw : Base w0) : (C_strings_trimRightASCII).Ok w0 PP := TableOk.ok (w0 := w0) (P := PP) (l := [(77, r_strings_asciiSet_contains)]) ⟨(r_strings_asciiSet_contains_ok hw).call, trivial⟩
theorem B_strings_trimRightASCII_ok : codeOk F_strings_trimRightASCII.ntmps B_strings_trimRightASCII = true := by kernel_rfl
def r_strings_trimRightASCII_p7 (K : AV → AH → Prop) (t0 : AV) (H : AH) : Prop :=
  K t0 H
def r_strings_trimRightASCII_p24 (K : AV → AH → Prop) (Y24 : List AV → AH → Prop) (s : List AV) (H : AH) : Prop := match s with
| [t0, t1] =>
  bnd (lenStr t0) fun t6u1 =>
  bnd (abin PP .gtr 3 t6u1 (.int .i64 0)) fun t7u2 =>
  branch t7u2 (
  bnd (lenStr t0) fun t11u3 =>
  bnd (abin PP .sub 3 t11u3 (.int .i64 1)) fun t12u4 =>
  bnd (idxStr t0 t12u4) fun t13u5 =>
  r_strings_asciiSet_contains [t1, t13u5] H fun t14u6 H_7 =>
  bnd (aun .not t14u6) fun t15u8 =>
  branch t15u8 (
  r_strings_trimRightASCII_p7 K t0 H_7) (
  bnd (lenStr t0) fun t18u9 =>
  bnd (abin PP .sub 3 t18u9 (.int .i64 1)) fun t19u10 =>
  bnd (sliceStr t0 none (some t19u10) none) fun t20u11 =>
  Y24 [t20u11, t1] H_7)) (
  r_strings_trimRightASCII_p7 K t0 H)
| _ => False
def r_strings_trimRightASCII : AFn := fun args H K => match args with
| [t0, t1] =>
  LoopP (r_strings_trimRightASCII_p24 K) [t0, t1] H
| _ => False
theorem s_strings_trimRightASCII_p7 {w0 : World} (hw : Base w0) {K : AV → AH → Prop} : Pt w0 PP F_strings_trimRightASCII F_strings_trimRightASCII.ntmps B_strings_trimRightASCII K 7 (fun ρ H => r_strings_trimRightASCII_p7 K (ρ 0) H) :=
  Pt.walk_eq (p := [true, true]) (ct := C_strings_trimRightASCII) (tab := [])
    (C_strings_trimRightASCII_ok hw) PP_mixed B_strings_trimRightASCII_ok trivial (by kernel_rfl)
theorem s_strings_trimRightASCII_p24 {w0 : World} (hw : Base w0) {K : AV → AH → Prop} : Pt w0 PP F_strings_trimRightASCII F_strings_trimRightASCII.ntmps B_strings_trimRightASCII K 24 (fun ρ H => LoopP (r_strings_trimRightASCII_p24 K) [ρ 0, ρ 1] H) :=
  Pt.loop (st := fun ρ => [ρ 0, ρ 1]) fun Y24 h24 => Pt.walk_eq (p := [false, false, false, true]) (ct := C_strings_trimRightASCII) (tab := [(24, fun ρ H => Y24 [ρ 0, ρ 1] H), (7, fun ρ H => r_strings_trimRightASCII_p7 K (ρ 0) H)])
    (C_strings_trimRightASCII_ok hw) PP_mixed B_strings_trimRightASCII_ok ⟨h24, s_strings_trimRightASCII_p7 hw, trivial⟩ (by kernel_rfl)
theorem r_strings_trimRightASCII_ok {w0 : World} (hw : Base w0) : FnOk w0 PP 46 (r_strings_trimRightASCII) := ⟨⟨F_strings_trimRightASCII, by kernel_rfl, by kernel_rfl, by kernel_rfl⟩, sound_of_pt (fn := F_strings_trimRightASCII) (body := B_strings_trimRightASCII) (n := 2) (by kernel_rfl) (by kernel_rfl)
  (fun args H K h => by unfold r_strings_trimRightASCII at h; split at h; rfl; exact h.elim) fun K => Pt.walk_eq (p := []) (ct := C_strings_trimRightASCII) (tab := [(24, fun ρ H => LoopP (r_strings_trimRightASCII_p24 K) [ρ 0, ρ 1] H)])
    (C_strings_trimRightASCII_ok hw) PP_mixed B_strings_trimRightASCII_ok ⟨s_strings_trimRightASCII_p24 hw, trivial⟩ (by kernel_rfl)⟩

abbrev k_strings_Trim : Nat := 23
-- strings.Trim
noncomputable abbrev F_strings_Trim : Func := Go.Proofs.Tryz.f23
noncomputable def B_strings_Trim : Code := (F_strings_Trim.body).getD .skip
def C_strings_Trim : Table := tableOf [(42, r_strings_trimLeftByte), (43, r_strings_trimRightByte), (44, r_strings_makeASCIISet), (45, r_strings_trimLeftASCII), (46, r_strings_trimRightASCII), (47, r_strings_trimLeftUnicode), (48, r_strings_trimRightUnicode)]
theorem C_strings_Trim_ok {w0 : World} (hw : Base w0) : (C_strings_Trim).Ok w0 PP := TableOk.ok (w0 := w0) (P := PP) (l := [(42, r_strings_trimLeftByte), (43, r_strings_trimRightByte), (44, r_strings_makeASCIISet), (45, r_strings_trimLeftASCII), (46, r_strings_trimRightASCII), (47, r_strings_trimLeftUnicode), (48, r_strings_trimRightUnicode)]) ⟨(r_strings_trimLeftByte_ok hw).call, (r_strings_trimRightByte_ok hw).call, (r_strings_makeASCIISet_ok hw).call, (r_strings_trimLeftASCII_ok hw).call, (r_strings_trimRightASCII_ok hw).call, (r_strings_trimLeftUnicode_ok hw).call, (r_strings_trimRightUnicode_ok hw).call, trivial⟩
theorem B_strings_Trim_ok : codeOk F_strings_Trim.ntmps B_strings_Trim = true := by kernel_rfl
def r_strings_Trim : AFn := fun args H K => match args with
| [t0, t1] =>
  bnd (abin PP .eql 9 t0 (.str [])) fun t8u1 =>
  aguard (gwant false t8u1) (fun k_4 =>
  k_4 t1 H) H fun t10u2 H_3 =>
  aguard (gwant false t8u1) (fun k_7 =>
  bnd (abin PP .eql 9 t10u2 (.str [])) fun t11u8 =>
  k_7 t11u8 H_3) H_3 fun t11u5 H_6 =>
  bnd (pickV t8u1 (.bool true) t11u5) fun t12u9 =>
  branch t12u9 (
  K t0 H_6) (
  bnd (lenStr t1) fun t15u10 =>
  bnd (abin PP .eql 3 t15u10 (.int .i64 1)) fun t16u11 =>
  aguard (gwant true t16u11) (fun k_14 =>
  k_14 t1 H_6) H_6 fun t18u12 H_13 =>
  aguard (gwant true t16u11) (fun k_17 =>
  bnd (idxStr t18u12 (.int .i64 0)) fun t19u18 =>
  k_17 t19u18 H_13) H_13 fun t19u15 H_16 =>
  aguard (gwant true t16u11) (fun k_21 =>
  bnd (abin PP .lss 5 t19u15 (.int .u8 128)) fun t20u22 =>
  k_21 t20u22 H_16) H_16 fun t20u19 H_20 =>
  bnd (pickV t16u11 t20u19 (.bool false)) fun t21u23 =>
  branch t21u23 (
  bnd (idxStr t1 (.int .i64 0)) fun t24u24 =>
  bnd (idxStr t1 (.int .i64 0)) fun t27u25 =>
  r_strings_trimRightByte [t0, t24u24] H_20 fun t25u26 H_27 =>
  r_strings_trimLeftByte [t25u26, t27u25] H_27 fun t28u28 H_29 =>
  K t28u28 H_29) (
  r_strings_makeASCIISet [t1] H_20 fun t31u30 H_31 =>
  bnd (aextract t31u30 0) fun t32u32 =>
  bnd (aextract t31u30 1) fun t33u33 =>
(fun (t5u34 : AV) (H_35 : AH) =>
  bnd (ast 256 t5u34 t32u32 H_35) fun H_36 =>
  branch t33u33 (
  r_strings_trimRightASCII [t0, t5u34] H_36 fun t36u37 H_38 =>
  r_strings_trimLeftASCII [t36u37, t5u34] H_38 fun t37u39 H_40 =>
  K t37u39 H_40) (
  r_strings_trimRightUnicode [t0, t1] H_36 fun t40u41 H_42 =>
  r_strings_trimLeftUnicode [t40u41, t1] H_42 fun t42u43 H_44 =>
  K t42u43 H_44)) (.ptr H_31.next 0) (H_31.add (.cells (List.replicate 256 (.bool false))))))
| _ => False
theorem r_strings_Trim_ok {w0 : World} (hw : Base w0) : FnOk w0 PP 23 (r_strings_Trim) := ⟨⟨F_strings_Trim, by kernel_rfl, by kernel_rfl, by kernel_rfl⟩, sound_of_pt (fn := F_strings_Trim) (body := B_strings_Trim) (n := 2) (by kernel_rfl) (by kernel_rfl)
  (fun args H K h => by unfold r_strings_Trim at h; split at h; rfl; exact h.elim) fun K => Pt.walk_eq (p := []) (ct := C_strings_Trim) (tab := [])
    (C_strings_Trim_ok hw) PP_mixed B_strings_Trim_ok trivial (by kernel_rfl)⟩

abbrev k_need_part : Nat := 131
-- hostler/need.part
noncomputable abbrev F_need_part : Func := Go.Proofs.Tryz.f131
noncomputable def B_need_part : Code := (F_need_part.body).getD .skip
def C_need_part : Table := tableOf []
theorem C_need_part_ok {w0 : World} (hw : Base w0) : (C_need_part).Ok w0 PP := TableOk.ok (w0 := w0) (P := PP) (l := []) trivial
theorem B_need_part_ok : codeOk F_need_part.ntmps B_need_part = true := by kernel_rfl
def r_need_part : AFn := fun args H K => match args with
| [t0, t1] =>
  bnd (abin PP .geq 86 t0 (.float .f64 0)) fun t6u1 =>
  aguard (gwant true t6u1) (fun k_4 =>
  k_4 t0 H) H fun t8u2 H_3 =>
  aguard (gwant true t6u1) (fun k_7 =>
  k_7 t1 H_3) H_3 fun t9u5 H_6 =>
  aguard (gwant true t6u1) (fun k_10 =>
  bnd (convR (.int .i64) (.float .f64) t9u5) fun t10u11 =>
  k_10 t10u11 H_6) H_6 fun t10u8 H_9 =>
  aguard (gwant true t6u1) (fun k_14 =>
  bnd (abin PP .leq 86 t8u2 t10u8) fun t11u15 =>
  k_14 t11u15 H_9) H_9 fun t11u12 H_13 =>
  bnd (pickV t6u1 t11u12 (.bool false)) fun t12u16 =>
  aguard (gwant true t12u16) (fun k_19 =>
  k_19 t0 H_13) H_13 fun t14u17 H_18 =>
  aguard (gwant true t12u16) (fun k_22 =>
  k_22 t0 H_18) H_18 fun t15u20 H_21 =>
  aguard (gwant true t12u16) (fun k_25 =>
  bnd (convR (.float .f64) (.int .i64) t15u20) fun t16u26 =>
  k_25 t16u26 H_21) H_21 fun t16u23 H_24 =>
  aguard (gwant true t12u16) (fun k_29 =>
  bnd (convR (.int .i64) (.float .f64) t16u23) fun t17u30 =>
  k_29 t17u30 H_24) H_24 fun t17u27 H_28 =>
  aguard (gwant true t12u16) (fun k_33 =>
  bnd (abin PP .eql 86 t14u17 t17u27) fun t18u34 =>
  k_33 t18u34 H_28) H_28 fun t18u31 H_32 =>
  bnd (pickV t12u16 t18u31 (.bool false)) fun t19u35 =>
  K t19u35 H_32
| _ => False
theorem r_need_part_ok {w0 : World} (hw : Base w0) : FnOk w0 PP 131 (r_need_part) := ⟨⟨F_need_part, by kernel_rfl, by kernel_rfl, by kernel_rfl⟩, sound_of_pt (fn := F_need_part) (body := B_need_part) (n := 2) (by kernel_rfl) (by kernel_rfl)
  (fun args H K h => by unfold r_need_part at h; split at h; rfl; exact h.elim) fun K => Pt.walk_eq (p := []) (ct := C_need_part) (tab := [])
    (C_need_part_ok hw) PP_mixed B_need_part_ok trivial (by kernel_rfl)⟩

abbrev k_need_within : Nat := 119
-- hostler/need.within
noncomputable abbrev F_need_within : Func := Go.Proofs.Tryz.f119
noncomputable def B_need_within : Code := (F_need_within.body).getD .skip
def C_need_within : Table := tableOf [(131, r_need_part)]
theorem C_need_within_ok {w0 : World} (hw : Base w0) : (C_need_within).Ok w0 PP := TableOk.ok (w0 := w0) (P := PP) (l := [(131, r_need_part)]) ⟨(r_need_part_ok hw).call, trivial⟩
theorem B_need_within_ok : codeOk F_need_within.ntmps B_need_within = true := by kernel_rfl
def r_need_within : AFn := fun args H K => match args with
| [t0, t1] =>
  bnd (areal t0) fun t6u1 =>
  r_need_part [t6u1, t1] H fun t8u2 H_3 =>
  aguard (gwant true t8u2) (fun k_6 =>
  k_6 t0 H_3) H_3 fun t10u4 H_5 =>
  aguard (gwant true t8u2) (fun k_9 =>
  bnd (aimag t10u4) fun t11u10 =>
  k_9 t11u10 H_5) H_5 fun t11u7 H_8 =>
  aguard (gwant true t8u2) (fun k_13 =>
  k_13 t1 H_8) H_8 fun t12u11 H_12 =>
  aguard (gwant true t8u2) (fun k_16 =>
  r_need_part [t11u7, t12u11] H_12 fun t13u17 H_18 =>
  k_16 t13u17 H_18) H_12 fun t13u14 H_15 =>
  bnd (pickV t8u2 t13u14 (.bool false)) fun t14u19 =>
  K t14u19 H_15
| _ => False
theorem r_need_within_ok {w0 : World} (hw : Base w0) : FnOk w0 PP 119 (r_need_within) := ⟨⟨F_need_within, by kernel_rfl, by kernel_rfl, by kernel_rfl⟩, sound_of_pt (fn := F_need_within) (body := B_need_within) (n := 2) (by kernel_rfl) (by kernel_rfl)
  (fun args H K h => by unfold r_need_within at h; split at h; rfl; exact h.elim) fun K => Pt.walk_eq (p := []) (ct := C_need_within) (tab := [])
    (C_need_within_ok hw) PP_mixed B_need_within_ok trivial (by kernel_rfl)⟩

abbrev k_need_Right : Nat := 100
-- hostler/need.Right
noncomputable abbrev F_need_Right : Func := Go.Proofs.Tryz.f100
noncomputable def B_need_Right : Code := (F_need_Right.body).getD .skip
def C_need_Right : Table := tableOf [(119, r_need_within)]
theorem C_need_Right_ok {w0 : World} (hw : Base w0) : (C_need_Right).Ok w0 PP := TableOk.ok (w0 := w0) (P := PP) (l := [(119, r_need_within)]) ⟨(r_need_within_ok hw).call, trivial⟩
theorem B_need_Right_ok : codeOk F_need_Right.ntmps B_need_Right = true := by kernel_rfl
def r_need_Right : AFn := fun args H K => match args with
| [t0] =>
  bnd (abin PP .neq 83 t0 (.cplx .f64 0 0)) fun t4u1 =>
  aguard (gwant true t4u1) (fun k_4 =>
  k_4 t0 H) H fun t6u2 H_3 =>
  aguard (gwant true t4u1) (fun k_7 =>
  r_need_within [t6u2, (.int .i64 1000)] H_3 fun t7u8 H_9 =>
  k_7 t7u8 H_9) H_3 fun t7u5 H_6 =>
  bnd (pickV t4u1 t7u5 (.bool false)) fun t8u10 =>
  K t8u10 H_6
| _ => False
theorem r_need_Right_ok {w0 : World} (hw : Base w0) : FnOk w0 PP 100 (r_need_Right) := ⟨⟨F_need_Right, by kernel_rfl, by kernel_rfl, by kernel_rfl⟩, sound_of_pt (fn := F_need_Right) (body := B_need_Right) (n := 1) (by kernel_rfl) (by kernel_rfl)
  (fun args H K h => by unfold r_need_Right at h; split at h; rfl; exact h.elim) fun K => Pt.walk_eq (p := []) (ct := C_need_Right) (tab := [])
    (C_need_Right_ok hw) PP_mixed B_need_Right_ok trivial (by kernel_rfl)⟩

abbrev k_need_Of : Nat := 94
-- hostler/need.Of
noncomputable abbrev F_need_Of : Func := Go.Proofs.Tryz.f94
noncomputable def B_need_Of : Code := (F_need_Of.body).getD .skip
def C_need_Of : Table := tableOf []
theorem C_need_Of_ok {w0 : World} (hw : Base w0) : (C_need_Of).Ok w0 PP := TableOk.ok (w0 := w0) (P := PP) (l := []) trivial
theorem B_need_Of_ok : codeOk F_need_Of.ntmps B_need_Of = true := by kernel_rfl
def r_need_Of : AFn := fun args H K => match args with
| [t0, t1] =>
  bnd (abin PP .lss 3 t0 (.int .i64 0)) fun t6u1 =>
  aguard (gwant false t6u1) (fun k_4 =>
  k_4 t0 H) H fun t8u2 H_3 =>
  aguard (gwant false t6u1) (fun k_7 =>
  bnd (abin PP .gtr 3 t8u2 (.int .i64 100000)) fun t9u8 =>
  k_7 t9u8 H_3) H_3 fun t9u5 H_6 =>
  bnd (pickV t6u1 (.bool true) t9u5) fun t10u9 =>
  aguard (gwant false t10u9) (fun k_12 =>
  k_12 t1 H_6) H_6 fun t12u10 H_11 =>
  aguard (gwant false t10u9) (fun k_15 =>
  bnd (abin PP .lss 3 t12u10 (.int .i64 0)) fun t13u16 =>
  k_15 t13u16 H_11) H_11 fun t13u13 H_14 =>
  bnd (pickV t10u9 (.bool true) t13u13) fun t14u17 =>
  aguard (gwant false t14u17) (fun k_20 =>
  k_20 t1 H_14) H_14 fun t16u18 H_19 =>
  aguard (gwant false t14u17) (fun k_23 =>
  bnd (abin PP .gtr 3 t16u18 (.int .i64 100000)) fun t17u24 =>
  k_23 t17u24 H_19) H_19 fun t17u21 H_22 =>
  bnd (pickV t14u17 (.bool true) t17u21) fun t18u25 =>
  branch t18u25 (
  K (.cplx .f64 0 0) H_22) (
  bnd (convR (.int .i64) (.float .f64) t0) fun t20u26 =>
  bnd (convR (.int .i64) (.float .f64) t1) fun t22u27 =>
  bnd (acplx t20u26 t22u27) fun t23u28 =>
  K t23u28 H_22)
| _ => False
theorem r_need_Of_ok {w0 : World} (hw : Base w0) : FnOk w0 PP 94 (r_need_Of) := ⟨⟨F_need_Of, by kernel_rfl, by kernel_rfl, by kernel_rfl⟩, sound_of_pt (fn := F_need_Of) (body := B_need_Of) (n := 2) (by kernel_rfl) (by kernel_rfl)
  (fun args H K h => by unfold r_need_Of at h; split at h; rfl; exact h.elim) fun K => Pt.walk_eq (p := []) (ct := C_need_Of) (tab := [])
    (C_need_Of_ok hw) PP_mixed B_need_Of_ok trivial (by kernel_rfl)⟩

abbrev k_message_Fields : Nat := 36
-- hostler/message.Fields
noncomputable abbrev F_message_Fields : Func := Go.Proofs.Tryz.f36
noncomputable def B_message_Fields : Code := (F_message_Fields.body).getD .skip
def C_message_Fields : Table := tableOf []
theorem C_message_Fields_ok {w0 : World} (hw : Base w0) : (C_message_Fields).Ok w0 PP := TableOk.ok (w0 := w0) (P := PP) (l := []) trivial
theorem B_message_Fields_ok : codeOk F_message_Fields.ntmps B_message_Fields = true := by kernel_rfl
def r_message_Fields_p221183 (K : AV → AH → Prop) (t3 : AV) (t16 : AV) (H : AH) : Prop :=
  branch t16 (
  K (.str [70, 69, 78]) H) (
  bnd (abin PP .eql 3 t3 (.int .i64 8)) fun t23u8 =>
  branch t23u8 (
  K (.str [70, 69, 78, 84, 83]) H) (
  bnd (abin PP .eql 3 t3 (.int .i64 10)) fun t25u9 =>
  branch t25u9 (
  K (.str [80]) H) (
  bnd (abin PP .eql 3 t3 (.int .i64 11)) fun t27u10 =>
  branch t27u10 (
  K (.str [70, 84, 85, 80, 83]) H) (
  bnd (abin PP .eql 3 t3 (.int .i64 12)) fun t29u11 =>
  branch t29u11 (
  K (.str [70, 84, 83]) H) (
  bnd (abin PP .eql 3 t3 (.int .i64 14)) fun t31u12 =>
  branch t31u12 (
  K (.str [70, 69, 78, 73]) H) (
  bnd (abin PP .eql 3 t3 (.int .i64 15)) fun t33u13 =>
  branch t33u13 (
  K (.str [70, 69, 78, 84]) H) (
  K (.str [63]) H)))))))
def r_message_Fields : AFn := fun args H K => match args with
| [t0] =>
  bnd (abin PP .eql 3 t0 (.int .i64 1)) fun t5u1 =>
  branch t5u1 (
  K (.str [70, 69, 73]) H) (
  bnd (abin PP .eql 3 t0 (.int .i64 2)) fun t7u2 =>
  branch t7u2 (
  K (.str [70, 84]) H) (
  bnd (abin PP .eql 3 t0 (.int .i64 3)) fun t9u3 =>
  branch t9u3 (
  K (.str [70]) H) (
  bnd (abin PP .eql 3 t0 (.int .i64 4)) fun t11u4 =>
  branch t11u4 (
  K (.str [70, 84, 85, 80]) H) (
  bnd (abin PP .eql 3 t0 (.int .i64 5)) fun t13u5 =>
  branch t13u5 (
  K (.str [70, 73]) H) (
  bnd (abin PP .eql 3 t0 (.int .i64 6)) fun t15u6 =>
  branch t15u6 (
  K (.str []) H) (
  bnd (abin PP .eql 3 t0 (.int .i64 7)) fun t17u7 =>
  branch t17u7 (
  r_message_Fields_p221183 K t0 t17u7 H) (
  bnd (abin PP .eql 3 t0 (.int .i64 9)) fun t18u14 =>
  branch t18u14 (
  r_message_Fields_p221183 K t0 t18u14 H) (
  bnd (abin PP .eql 3 t0 (.int .i64 13)) fun t19u15 =>
  branch t19u15 (
  r_message_Fields_p221183 K t0 t19u15 H) (
  bnd (abin PP .eql 3 t0 (.int .i64 16)) fun t20u16 =>
  branch t20u16 (
  r_message_Fields_p221183 K t0 t20u16 H) (
  bnd (abin PP .eql 3 t0 (.int .i64 17)) fun t21u17 =>
  r_message_Fields_p221183 K t0 t21u17 H))))))))))
| _ => False
theorem s_message_Fields_p221183 {w0 : World} (hw : Base w0) {K : AV → AH → Prop} : Pt w0 PP F_message_Fields F_message_Fields.ntmps B_message_Fields K 221183 (fun ρ H => r_message_Fields_p221183 K (ρ 3) (ρ 16) H) :=
  Pt.walk_eq (p := [true, true, true, true, true, true, true, true, true, true, true, true, true, false, true, false, true]) (ct := C_message_Fields) (tab := [])
    (C_message_Fields_ok hw) PP_mixed B_message_Fields_ok trivial (by kernel_rfl)
theorem r_message_Fields_ok {w0 : World} (hw : Base w0) : FnOk w0 PP 36 (r_message_Fields) := ⟨⟨F_message_Fields, by kernel_rfl, by kernel_rfl, by kernel_rfl⟩, sound_of_pt (fn := F_message_Fields) (body := B_message_Fields) (n := 1) (by kernel_rfl) (by kernel_rfl)
  (fun args H K h => by unfold r_message_Fields at h; split at h; rfl; exact h.elim) fun K => Pt.walk_eq (p := []) (ct := C_message_Fields) (tab := [(221183, fun ρ H => r_message_Fields_p221183 K (ρ 3) (ρ 16) H)])
    (C_message_Fields_ok hw) PP_mixed B_message_Fields_ok ⟨s_message_Fields_p221183 hw, trivial⟩ (by kernel_rfl)⟩

abbrev k_message_texts : Nat := 66
-- hostler/message.texts
noncomputable abbrev F_message_texts : Func := Go.Proofs.Tryz.f66
noncomputable def B_message_texts : Code := (F_message_texts.body).getD .skip
def C_message_texts : Table := tableOf []
theorem C_message_texts_ok {w0 : World} (hw : Base w0) : (C_message_texts).Ok w0 PP := TableOk.ok (w0 := w0) (P := PP) (l := []) trivial
theorem B_message_texts_ok : codeOk F_message_texts.ntmps B_message_texts = true := by kernel_rfl
def r_message_texts : AFn := fun args H K => match args with
| [t0] =>
  bnd (nilck t0) fun t5u1 =>
  bnd (aoff 1 t5u1) fun t6u2 =>
  bnd (nilck t0) fun t8u3 =>
  bnd (aoff 2 t8u3) fun t9u4 =>
  bnd (nilck t0) fun t11u5 =>
  bnd (aoff 3 t11u5) fun t12u6 =>
(fun (t3u7 : AV) (H_8 : AH) =>
(
  bnd (mput (.one .int) t3u7 (.int .i32 70) t6u2 H_8) fun H_9 =>
(
  bnd (mput (.one .int) t3u7 (.int .i32 69) t9u4 H_9) fun H_10 =>
  bnd (mput (.one .int) t3u7 (.int .i32 84) t12u6 H_10) fun H_11 =>
  K t3u7 H_11) ∧ (
  bnd (mput (.one .int) t3u7 (.int .i32 84) t12u6 H_9) fun H_12 =>
  bnd (mput (.one .int) t3u7 (.int .i32 69) t9u4 H_12) fun H_13 =>
  K t3u7 H_13)) ∧ (
(
  bnd (mput (.one .int) t3u7 (.int .i32 69) t9u4 H_8) fun H_14 =>
(
  bnd (mput (.one .int) t3u7 (.int .i32 70) t6u2 H_14) fun H_15 =>
  bnd (mput (.one .int) t3u7 (.int .i32 84) t12u6 H_15) fun H_16 =>
  K t3u7 H_16) ∧ (
  bnd (mput (.one .int) t3u7 (.int .i32 84) t12u6 H_14) fun H_17 =>
  bnd (mput (.one .int) t3u7 (.int .i32 70) t6u2 H_17) fun H_18 =>
  K t3u7 H_18)) ∧ (
  bnd (mput (.one .int) t3u7 (.int .i32 84) t12u6 H_8) fun H_19 =>
(
  bnd (mput (.one .int) t3u7 (.int .i32 70) t6u2 H_19) fun H_20 =>
  bnd (mput (.one .int) t3u7 (.int .i32 69) t9u4 H_20) fun H_21 =>
  K t3u7 H_21) ∧ (
  bnd (mput (.one .int) t3u7 (.int .i32 69) t9u4 H_19) fun H_22 =>
  bnd (mput (.one .int) t3u7 (.int .i32 70) t6u2 H_22) fun H_23 =>
  K t3u7 H_23)))) (.map H.next) (H.add (.map [] 0))
| _ => False
theorem r_message_texts_ok {w0 : World} (hw : Base w0) : FnOk w0 PP 66 (r_message_texts) := ⟨⟨F_message_texts, by kernel_rfl, by kernel_rfl, by kernel_rfl⟩, sound_of_pt (fn := F_message_texts) (body := B_message_texts) (n := 1) (by kernel_rfl) (by kernel_rfl)
  (fun args H K h => by unfold r_message_texts at h; split at h; rfl; exact h.elim) fun K => Pt.walk_eq (p := []) (ct := C_message_texts) (tab := [])
    (C_message_texts_ok hw) PP_mixed B_message_texts_ok trivial (by kernel_rfl)⟩

abbrev k_message_numbers : Nat := 69
-- hostler/message.numbers
noncomputable abbrev F_message_numbers : Func := Go.Proofs.Tryz.f69
noncomputable def B_message_numbers : Code := (F_message_numbers.body).getD .skip
def C_message_numbers : Table := tableOf []
theorem C_message_numbers_ok {w0 : World} (hw : Base w0) : (C_message_numbers).Ok w0 PP := TableOk.ok (w0 := w0) (P := PP) (l := []) trivial
theorem B_message_numbers_ok : codeOk F_message_numbers.ntmps B_message_numbers = true := by kernel_rfl
def r_message_numbers : AFn := fun args H K => match args with
| [t0] =>
  bnd (nilck t0) fun t5u1 =>
  bnd (aoff 4 t5u1) fun t6u2 =>
  bnd (nilck t0) fun t8u3 =>
  bnd (aoff 5 t8u3) fun t9u4 =>
  bnd (nilck t0) fun t11u5 =>
  bnd (aoff 6 t11u5) fun t12u6 =>
  bnd (nilck t0) fun t14u7 =>
  bnd (aoff 7 t14u7) fun t15u8 =>
(fun (t3u9 : AV) (H_10 : AH) =>
(
  bnd (mput (.one .int) t3u9 (.int .i32 78) t6u2 H_10) fun H_11 =>
(
  bnd (mput (.one .int) t3u9 (.int .i32 83) t9u4 H_11) fun H_12 =>
(
  bnd (mput (.one .int) t3u9 (.int .i32 85) t12u6 H_12) fun H_13 =>
  bnd (mput (.one .int) t3u9 (.int .i32 80) t15u8 H_13) fun H_14 =>
  K t3u9 H_14) ∧ (
  bnd (mput (.one .int) t3u9 (.int .i32 80) t15u8 H_12) fun H_15 =>
  bnd (mput (.one .int) t3u9 (.int .i32 85) t12u6 H_15) fun H_16 =>
  K t3u9 H_16)) ∧ (
(
  bnd (mput (.one .int) t3u9 (.int .i32 85) t12u6 H_11) fun H_17 =>
(
  bnd (mput (.one .int) t3u9 (.int .i32 83) t9u4 H_17) fun H_18 =>
  bnd (mput (.one .int) t3u9 (.int .i32 80) t15u8 H_18) fun H_19 =>
  K t3u9 H_19) ∧ (
  bnd (mput (.one .int) t3u9 (.int .i32 80) t15u8 H_17) fun H_20 =>
  bnd (mput (.one .int) t3u9 (.int .i32 83) t9u4 H_20) fun H_21 =>
  K t3u9 H_21)) ∧ (
  bnd (mput (.one .int) t3u9 (.int .i32 80) t15u8 H_11) fun H_22 =>
(
  bnd (mput (.one .int) t3u9 (.int .i32 83) t9u4 H_22) fun H_23 =>
  bnd (mput (.one .int) t3u9 (.int .i32 85) t12u6 H_23) fun H_24 =>
  K t3u9 H_24) ∧ (
  bnd (mput (.one .int) t3u9 (.int .i32 85) t12u6 H_22) fun H_25 =>
  bnd (mput (.one .int) t3u9 (.int .i32 83) t9u4 H_25) fun H_26 =>
  K t3u9 H_26)))) ∧ (
(
  bnd (mput (.one .int) t3u9 (.int .i32 83) t9u4 H_10) fun H_27 =>
(
  bnd (mput (.one .int) t3u9 (.int .i32 78) t6u2 H_27) fun H_28 =>
(
  bnd (mput (.one .int) t3u9 (.int .i32 85) t12u6 H_28) fun H_29 =>
  bnd (mput (.one .int) t3u9 (.int .i32 80) t15u8 H_29) fun H_30 =>
  K t3u9 H_30) ∧ (
  bnd (mput (.one .int) t3u9 (.int .i32 80) t15u8 H_28) fun H_31 =>
  bnd (mput (.one .int) t3u9 (.int .i32 85) t12u6 H_31) fun H_32 =>
  K t3u9 H_32)) ∧ (
(
  bnd (mput (.one .int) t3u9 (.int .i32 85) t12u6 H_27) fun H_33 =>
(
  bnd (mput (.one .int) t3u9 (.int .i32 78) t6u2 H_33) fun H_34 =>
  bnd (mput (.one .int) t3u9 (.int .i32 80) t15u8 H_34) fun H_35 =>
  K t3u9 H_35) ∧ (
  bnd (mput (.one .int) t3u9 (.int .i32 80) t15u8 H_33) fun H_36 =>
  bnd (mput (.one .int) t3u9 (.int .i32 78) t6u2 H_36) fun H_37 =>
  K t3u9 H_37)) ∧ (
  bnd (mput (.one .int) t3u9 (.int .i32 80) t15u8 H_27) fun H_38 =>
(
  bnd (mput (.one .int) t3u9 (.int .i32 78) t6u2 H_38) fun H_39 =>
  bnd (mput (.one .int) t3u9 (.int .i32 85) t12u6 H_39) fun H_40 =>
  K t3u9 H_40) ∧ (
  bnd (mput (.one .int) t3u9 (.int .i32 85) t12u6 H_38) fun H_41 =>
  bnd (mput (.one .int) t3u9 (.int .i32 78) t6u2 H_41) fun H_42 =>
  K t3u9 H_42)))) ∧ (
(
  bnd (mput (.one .int) t3u9 (.int .i32 85) t12u6 H_10) fun H_43 =>
(
  bnd (mput (.one .int) t3u9 (.int .i32 78) t6u2 H_43) fun H_44 =>
(
  bnd (mput (.one .int) t3u9 (.int .i32 83) t9u4 H_44) fun H_45 =>
  bnd (mput (.one .int) t3u9 (.int .i32 80) t15u8 H_45) fun H_46 =>
  K t3u9 H_46) ∧ (
  bnd (mput (.one .int) t3u9 (.int .i32 80) t15u8 H_44) fun H_47 =>
  bnd (mput (.one .int) t3u9 (.int .i32 83) t9u4 H_47) fun H_48 =>
  K t3u9 H_48)) ∧ (
(
  bnd (mput (.one .int) t3u9 (.int .i32 83) t9u4 H_43) fun H_49 =>
(
  bnd (mput (.one .int) t3u9 (.int .i32 78) t6u2 H_49) fun H_50 =>
  bnd (mput (.one .int) t3u9 (.int .i32 80) t15u8 H_50) fun H_51 =>
  K t3u9 H_51) ∧ (
  bnd (mput (.one .int) t3u9 (.int .i32 80) t15u8 H_49) fun H_52 =>
  bnd (mput (.one .int) t3u9 (.int .i32 78) t6u2 H_52) fun H_53 =>
  K t3u9 H_53)) ∧ (
  bnd (mput (.one .int) t3u9 (.int .i32 80) t15u8 H_43) fun H_54 =>
(
  bnd (mput (.one .int) t3u9 (.int .i32 78) t6u2 H_54) fun H_55 =>
  bnd (mput (.one .int) t3u9 (.int .i32 83) t9u4 H_55) fun H_56 =>
  K t3u9 H_56) ∧ (
  bnd (mput (.one .int) t3u9 (.int .i32 83) t9u4 H_54) fun H_57 =>
  bnd (mput (.one .int) t3u9 (.int .i32 78) t6u2 H_57) fun H_58 =>
  K t3u9 H_58)))) ∧ (
  bnd (mput (.one .int) t3u9 (.int .i32 80) t15u8 H_10) fun H_59 =>
(
  bnd (mput (.one .int) t3u9 (.int .i32 78) t6u2 H_59) fun H_60 =>
(
  bnd (mput (.one .int) t3u9 (.int .i32 83) t9u4 H_60) fun H_61 =>
  bnd (mput (.one .int) t3u9 (.int .i32 85) t12u6 H_61) fun H_62 =>
  K t3u9 H_62) ∧ (
  bnd (mput (.one .int) t3u9 (.int .i32 85) t12u6 H_60) fun H_63 =>
  bnd (mput (.one .int) t3u9 (.int .i32 83) t9u4 H_63) fun H_64 =>
  K t3u9 H_64)) ∧ (
(
  bnd (mput (.one .int) t3u9 (.int .i32 83) t9u4 H_59) fun H_65 =>
(
  bnd (mput (.one .int) t3u9 (.int .i32 78) t6u2 H_65) fun H_66 =>
  bnd (mput (.one .int) t3u9 (.int .i32 85) t12u6 H_66) fun H_67 =>
  K t3u9 H_67) ∧ (
  bnd (mput (.one .int) t3u9 (.int .i32 85) t12u6 H_65) fun H_68 =>
  bnd (mput (.one .int) t3u9 (.int .i32 78) t6u2 H_68) fun H_69 =>
  K t3u9 H_69)) ∧ (
  bnd (mput (.one .int) t3u9 (.int .i32 85) t12u6 H_59) fun H_70 =>
(
  bnd (mput (.one .int) t3u9 (.int .i32 78) t6u2 H_70) fun H_71 =>
  bnd (mput (.one .int) t3u9 (.int .i32 83) t9u4 H_71) fun H_72 =>
  K t3u9 H_72) ∧ (
  bnd (mput (.one .int) t3u9 (.int .i32 83) t9u4 H_70) fun H_73 =>
  bnd (mput (.one .int) t3u9 (.int .i32 78) t6u2 H_73) fun H_74 =>
  K t3u9 H_74))))))) (.map H.next) (H.add (.map [] 0))
| _ => False
theorem r_message_numbers_ok {w0 : World} (hw : Base w0) : FnOk w0 PP 69 (r_message_numbers) := ⟨⟨F_message_numbers, by kernel_rfl, by kernel_rfl, by kernel_rfl⟩, sound_of_pt (fn := F_message_numbers) (body := B_message_numbers) (n := 1) (by kernel_rfl) (by kernel_rfl)
  (fun args H K h => by unfold r_message_numbers at h; split at h; rfl; exact h.elim) fun K => Pt.walk_eq (p := []) (ct := C_message_numbers) (tab := [])
    (C_message_numbers_ok hw) PP_mixed B_message_numbers_ok trivial (by kernel_rfl)⟩

abbrev k_message_holds : Nat := 67
-- hostler/message.holds
noncomputable abbrev F_message_holds : Func := Go.Proofs.Tryz.f67
noncomputable def B_message_holds : Code := (F_message_holds.body).getD .skip
def C_message_holds : Table := tableOf []
theorem C_message_holds_ok {w0 : World} (hw : Base w0) : (C_message_holds).Ok w0 PP := TableOk.ok (w0 := w0) (P := PP) (l := []) trivial
theorem B_message_holds_ok : codeOk F_message_holds.ntmps B_message_holds = true := by kernel_rfl
def r_message_holds_p52 (K : AV → AH → Prop) (Y52 : List AV → AH → Prop) (s : List AV) (H : AH) : Prop := match s with
| [t1, t8] =>
  bnd (nextStr t8 H) fun r_2 =>
  bnd (aextract r_2.1 0) fun t10u3 =>
  branch t10u3 (
  bnd (aextract r_2.1 2) fun t11u4 =>
  bnd (abin PP .eql 21 t11u4 t1) fun t14u5 =>
  branch t14u5 (
  K (.bool true) r_2.2) (
  Y52 [t1, t8] r_2.2)) (
  K (.bool false) r_2.2)
| _ => False
def r_message_holds : AFn := fun args H K => match args with
| [t0, t1] =>
  bnd (rangeStr t0 H) fun r_1 =>
  LoopP (r_message_holds_p52 K) [t1, r_1.1] r_1.2
| _ => False
theorem s_message_holds_p52 {w0 : World} (hw : Base w0) {K : AV → AH → Prop} : Pt w0 PP F_message_holds F_message_holds.ntmps B_message_holds K 52 (fun ρ H => LoopP (r_message_holds_p52 K) [ρ 1, ρ 8] H) :=
  Pt.loop (st := fun ρ => [ρ 1, ρ 8]) fun Y52 h52 => Pt.walk_eq (p := [false, false, true, false, true]) (ct := C_message_holds) (tab := [(52, fun ρ H => Y52 [ρ 1, ρ 8] H)])
    (C_message_holds_ok hw) PP_mixed B_message_holds_ok ⟨h52, trivial⟩ (by kernel_rfl)
theorem r_message_holds_ok {w0 : World} (hw : Base w0) : FnOk w0 PP 67 (r_message_holds) := ⟨⟨F_message_holds, by kernel_rfl, by kernel_rfl, by kernel_rfl⟩, sound_of_pt (fn := F_message_holds) (body := B_message_holds) (n := 2) (by kernel_rfl) (by kernel_rfl)
  (fun args H K h => by unfold r_message_holds at h; split at h; rfl; exact h.elim) fun K => Pt.walk_eq (p := []) (ct := C_message_holds) (tab := [(52, fun ρ H => LoopP (r_message_holds_p52 K) [ρ 1, ρ 8] H)])
    (C_message_holds_ok hw) PP_mixed B_message_holds_ok ⟨s_message_holds_p52 hw, trivial⟩ (by kernel_rfl)⟩

abbrev k_message_number : Nat := 70
-- hostler/message.number
noncomputable abbrev F_message_number : Func := Go.Proofs.Tryz.f70
noncomputable def B_message_number : Code := (F_message_number.body).getD .skip
def C_message_number : Table := tableOf []
theorem C_message_number_ok {w0 : World} (hw : Base w0) : (C_message_number).Ok w0 PP := TableOk.ok (w0 := w0) (P := PP) (l := []) trivial
theorem B_message_number_ok : codeOk F_message_number.ntmps B_message_number = true := by kernel_rfl
def r_message_number : AFn := fun args H K => match args with
| [t0, t1] =>
  bnd (abin PP .eql 21 t0 (.int .i32 83)) fun t6u1 =>
  branch t6u1 (
  bnd (abin PP .geq 3 t1 (.int .i64 1)) fun t8u2 =>
  aguard (gwant true t8u2) (fun k_5 =>
  k_5 t1 H) H fun t10u3 H_4 =>
  aguard (gwant true t8u2) (fun k_8 =>
  bnd (abin PP .leq 3 t10u3 (.int .i64 7)) fun t11u9 =>
  k_8 t11u9 H_4) H_4 fun t11u6 H_7 =>
  bnd (pickV t8u2 t11u6 (.bool false)) fun t12u10 =>
  K t12u10 H_7) (
  bnd (abin PP .geq 3 t1 (.int .i64 1)) fun t14u11 =>
  aguard (gwant true t14u11) (fun k_14 =>
  k_14 t1 H) H fun t16u12 H_13 =>
  aguard (gwant true t14u11) (fun k_17 =>
  bnd (abin PP .leq 3 t16u12 (.int .i64 2147483647)) fun t17u18 =>
  k_17 t17u18 H_13) H_13 fun t17u15 H_16 =>
  bnd (pickV t14u11 t17u15 (.bool false)) fun t18u19 =>
  K t18u19 H_16)
| _ => False
theorem r_message_number_ok {w0 : World} (hw : Base w0) : FnOk w0 PP 70 (r_message_number) := ⟨⟨F_message_number, by kernel_rfl, by kernel_rfl, by kernel_rfl⟩, sound_of_pt (fn := F_message_number) (body := B_message_number) (n := 2) (by kernel_rfl) (by kernel_rfl)
  (fun args H K h => by unfold r_message_number at h; split at h; rfl; exact h.elim) fun K => Pt.walk_eq (p := []) (ct := C_message_number) (tab := [])
    (C_message_number_ok hw) PP_mixed B_message_number_ok trivial (by kernel_rfl)⟩

abbrev k_name_Right : Nat := 68
-- hostler/name.Right
noncomputable abbrev F_name_Right : Func := Go.Proofs.Tryz.f68
noncomputable def B_name_Right : Code := (F_name_Right.body).getD .skip
def C_name_Right : Table := tableOf [(23, r_strings_Trim)]
theorem C_name_Right_ok {w0 : World} (hw : Base w0) : (C_name_Right).Ok w0 PP := TableOk.ok (w0 := w0) (P := PP) (l := [(23, r_strings_Trim)]) ⟨(r_strings_Trim_ok hw).call, trivial⟩
theorem B_name_Right_ok : codeOk F_name_Right.ntmps B_name_Right = true := by kernel_rfl
def r_name_Right : AFn := fun args H K => match args with
| [t0] =>
  bnd (abin PP .neq 9 t0 (.str [])) fun t4u1 =>
  aguard (gwant true t4u1) (fun k_4 =>
  k_4 t0 H) H fun t6u2 H_3 =>
  aguard (gwant true t4u1) (fun k_7 =>
  bnd (lenStr t6u2) fun t7u8 =>
  k_7 t7u8 H_3) H_3 fun t7u5 H_6 =>
  aguard (gwant true t4u1) (fun k_11 =>
  bnd (abin PP .leq 3 t7u5 (.int .i64 8)) fun t8u12 =>
  k_11 t8u12 H_6) H_6 fun t8u9 H_10 =>
  bnd (pickV t4u1 t8u9 (.bool false)) fun t9u13 =>
  aguard (gwant true t9u13) (fun k_16 =>
  k_16 t0 H_10) H_10 fun t11u14 H_15 =>
  aguard (gwant true t9u13) (fun k_19 =>
  r_strings_Trim [t11u14, (.str [97, 98, 99, 100, 101, 102, 103, 104, 105, 106, 107, 108, 109, 110, 111, 112, 113, 114, 115, 116, 117, 118, 119, 120, 121, 122, 48, 49, 50, 51, 52, 53, 54, 55, 56, 57])] H_15 fun t12u20 H_21 =>
  k_19 t12u20 H_21) H_15 fun t12u17 H_18 =>
  aguard (gwant true t9u13) (fun k_24 =>
  bnd (abin PP .eql 9 t12u17 (.str [])) fun t13u25 =>
  k_24 t13u25 H_18) H_18 fun t13u22 H_23 =>
  bnd (pickV t9u13 t13u22 (.bool false)) fun t14u26 =>
  K t14u26 H_23
| _ => False
theorem r_name_Right_ok {w0 : World} (hw : Base w0) : FnOk w0 PP 68 (r_name_Right) := ⟨⟨F_name_Right, by kernel_rfl, by kernel_rfl, by kernel_rfl⟩, sound_of_pt (fn := F_name_Right) (body := B_name_Right) (n := 1) (by kernel_rfl) (by kernel_rfl)
  (fun args H K h => by unfold r_name_Right at h; split at h; rfl; exact h.elim) fun K => Pt.walk_eq (p := []) (ct := C_name_Right) (tab := [])
    (C_name_Right_ok hw) PP_mixed B_name_Right_ok trivial (by kernel_rfl)⟩

abbrev k_name_All : Nat := 96
-- hostler/name.All
noncomputable abbrev F_name_All : Func := Go.Proofs.Tryz.f96
noncomputable def B_name_All : Code := (F_name_All.body).getD .skip
def C_name_All : Table := tableOf [(68, r_name_Right)]
theorem C_name_All_ok {w0 : World} (hw : Base w0) : (C_name_All).Ok w0 PP := TableOk.ok (w0 := w0) (P := PP) (l := [(68, r_name_Right)]) ⟨(r_name_Right_ok hw).call, trivial⟩
theorem B_name_All_ok : codeOk F_name_All.ntmps B_name_All = true := by kernel_rfl
def r_name_All_p116 (K : AV → AH → Prop) (Y116 : List AV → AH → Prop) (s : List AV) (H : AH) : Prop := match s with
| [t3, t7, t8, t9] =>
  bnd (abin PP .lss 3 t9 t8) fun t10u4 =>
  branch t10u4 (
  bnd (idxA 1 t7 t9) fun t11u5 =>
  bnd (ld1 t11u5 H) fun t12u6 =>
  r_name_Right [t12u6] H fun t14u7 H_8 =>
  bnd (aun .not t14u7) fun t15u9 =>
  aguard (gwant false t15u9) (fun k_12 =>
  k_12 t3 H_8) H_8 fun t17u10 H_11 =>
  aguard (gwant false t15u9) (fun k_15 =>
  k_15 t12u6 H_11) H_11 fun t18u13 H_14 =>
  aguard (gwant false t15u9) (fun k_18 =>
  bnd (look (.one .str) (.bool false) t17u10 t18u13 false H_14) fun t19u19 =>
  k_18 t19u19 H_14) H_14 fun t19u16 H_17 =>
  bnd (pickV t15u9 (.bool true) t19u16) fun t20u20 =>
  branch t20u20 (
  K (.bool false) H_17) (
  bnd (mput (.one .str) t3 t12u6 (.bool true) H_17) fun H_21 =>
  bnd (abin PP .add 3 t9 (.int .i64 1)) fun t23u22 =>
  Y116 [t3, t7, t8, t23u22] H_21)) (
  K (.bool true) H)
| _ => False
def r_name_All : AFn := fun args H K => match args with
| [t0] =>
(fun (t6u1 : AV) (H_2 : AH) =>
  bnd (lenSl t0) fun t8u3 =>
  LoopP (r_name_All_p116 K) [t6u1, t0, t8u3, (.int .i64 0)] H_2) (.map H.next) (H.add (.map [] 0))
| _ => False
theorem s_name_All_p116 {w0 : World} (hw : Base w0) {K : AV → AH → Prop} : Pt w0 PP F_name_All F_name_All.ntmps B_name_All K 116 (fun ρ H => LoopP (r_name_All_p116 K) [ρ 3, ρ 7, ρ 8, ρ 9] H) :=
  Pt.loop (st := fun ρ => [ρ 3, ρ 7, ρ 8, ρ 9]) fun Y116 h116 => Pt.walk_eq (p := [false, false, true, false, true, true]) (ct := C_name_All) (tab := [(116, fun ρ H => Y116 [ρ 3, ρ 7, ρ 8, ρ 9] H)])
    (C_name_All_ok hw) PP_mixed B_name_All_ok ⟨h116, trivial⟩ (by kernel_rfl)
theorem r_name_All_ok {w0 : World} (hw : Base w0) : FnOk w0 PP 96 (r_name_All) := ⟨⟨F_name_All, by kernel_rfl, by kernel_rfl, by kernel_rfl⟩, sound_of_pt (fn := F_name_All) (body := B_name_All) (n := 1) (by kernel_rfl) (by kernel_rfl)
  (fun args H K h => by unfold r_name_All at h; split at h; rfl; exact h.elim) fun K => Pt.walk_eq (p := []) (ct := C_name_All) (tab := [(116, fun ρ H => LoopP (r_name_All_p116 K) [ρ 3, ρ 7, ρ 8, ρ 9] H)])
    (C_name_All_ok hw) PP_mixed B_name_All_ok ⟨s_name_All_p116 hw, trivial⟩ (by kernel_rfl)⟩

abbrev k_message_list_1 : Nat := 98
-- hostler/message.list_1
noncomputable abbrev F_message_list_1 : Func := Go.Proofs.Tryz.f98
noncomputable def B_message_list_1 : Code := (F_message_list_1.body).getD .skip
def C_message_list_1 : Table := tableOf []
theorem C_message_list_1uok {w0 : World} (hw : Base w0) : (C_message_list_1).Ok w0 PP := TableOk.ok (w0 := w0) (P := PP) (l := []) trivial
theorem B_message_list_1uok : codeOk F_message_list_1.ntmps B_message_list_1 = true := by kernel_rfl
def r_message_list_1 : AFn := fun args H K => match args with
| [t0] =>
  bnd (boxCells t0) fun z_1 =>
(fun (t1u2 : AV) (H_3 : AH) =>
  bnd (aoff 1 t1u2) fun t3u4 =>
  bnd (ld1 t3u4 H_3) fun t4u5 =>
  bnd (abin PP .neq 83 t4u5 (.cplx .f64 0 0)) fun t5u6 =>
  K t5u6 H_3) (.ptr H.next 0) (H.add (.cells z_1))
| _ => False
theorem r_message_list_1uok {w0 : World} (hw : Base w0) : FnOk w0 PP 98 (r_message_list_1) := ⟨⟨F_message_list_1, by kernel_rfl, by kernel_rfl, by kernel_rfl⟩, sound_of_pt (fn := F_message_list_1) (body := B_message_list_1) (n := 1) (by kernel_rfl) (by kernel_rfl)
  (fun args H K h => by unfold r_message_list_1 at h; split at h; rfl; exact h.elim) fun K => Pt.walk_eq (p := []) (ct := C_message_list_1) (tab := [])
    (C_message_list_1uok hw) PP_mixed B_message_list_1uok trivial (by kernel_rfl)⟩

abbrev k_message_list_2 : Nat := 99
-- hostler/message.list_2
noncomputable abbrev F_message_list_2 : Func := Go.Proofs.Tryz.f99
noncomputable def B_message_list_2 : Code := (F_message_list_2.body).getD .skip
def C_message_list_2 : Table := tableOf [(100, r_need_Right)]
theorem C_message_list_2uok {w0 : World} (hw : Base w0) : (C_message_list_2).Ok w0 PP := TableOk.ok (w0 := w0) (P := PP) (l := [(100, r_need_Right)]) ⟨(r_need_Right_ok hw).call, trivial⟩
theorem B_message_list_2uok : codeOk F_message_list_2.ntmps B_message_list_2 = true := by kernel_rfl
def r_message_list_2 : AFn := fun args H K => match args with
| [t0] =>
  bnd (boxCells t0) fun z_1 =>
(fun (t1u2 : AV) (H_3 : AH) =>
  bnd (aoff 1 t1u2) fun t3u4 =>
  bnd (ld1 t3u4 H_3) fun t4u5 =>
  r_need_Right [t4u5] H_3 fun t5u6 H_7 =>
  bnd (aun .not t5u6) fun t6u8 =>
  K t6u8 H_7) (.ptr H.next 0) (H.add (.cells z_1))
| _ => False
theorem r_message_list_2uok {w0 : World} (hw : Base w0) : FnOk w0 PP 99 (r_message_list_2) := ⟨⟨F_message_list_2, by kernel_rfl, by kernel_rfl, by kernel_rfl⟩, sound_of_pt (fn := F_message_list_2) (body := B_message_list_2) (n := 1) (by kernel_rfl) (by kernel_rfl)
  (fun args H K h => by unfold r_message_list_2 at h; split at h; rfl; exact h.elim) fun K => Pt.walk_eq (p := []) (ct := C_message_list_2) (tab := [])
    (C_message_list_2uok hw) PP_mixed B_message_list_2uok trivial (by kernel_rfl)⟩

abbrev k_message_list : Nat := 72
-- hostler/message.list
noncomputable abbrev F_message_list : Func := Go.Proofs.Tryz.f72
noncomputable def B_message_list : Code := (F_message_list.body).getD .skip
def C_message_list : Table := tableOf [(96, r_name_All), (97, (r_slices_ContainsFunc_api_Item_api_Item (tabL [(98, r_message_list_1), (99, r_message_list_2)])))]
theorem C_message_list_ok {w0 : World} (hw : Base w0) : (C_message_list).Ok w0 PP := TableOk.ok (w0 := w0) (P := PP) (l := [(96, r_name_All), (97, (r_slices_ContainsFunc_api_Item_api_Item (tabL [(98, r_message_list_1), (99, r_message_list_2)])))]) ⟨(r_name_All_ok hw).call, (r_slices_ContainsFunc_api_Item_api_Item_ok hw (TableOk.tab (w0 := w0) (P := PP) (l := [(98, r_message_list_1), (99, r_message_list_2)]) ⟨(r_message_list_1uok hw).call, (r_message_list_2uok hw).call, trivial⟩)).call, trivial⟩
theorem B_message_list_ok : codeOk F_message_list.ntmps B_message_list = true := by kernel_rfl
def r_message_list_p116 (K : AV → AH → Prop) (Y116 : List AV → AH → Prop) (s : List AV) (H : AH) : Prop := match s with
| [t0, t1, t5, t8, t9, t10] =>
  bnd (abin PP .lss 3 t10 t9) fun t11u2 =>
  branch t11u2 (
  bnd (idxA 2 t8 t10) fun t12u3 =>
  bnd (ldN 2 t12u3 H) fun t13u4 =>
(fun (t7u5 : AV) (H_6 : AH) =>
  bnd (ast 2 t7u5 t13u4 H_6) fun H_7 =>
  bnd (aoff 0 t7u5) fun t15u8 =>
  bnd (ld1 t15u8 H_7) fun t16u9 =>
  bnd (buildSl 1 1 [(0, t16u9)]) fun t17u10 =>
  appK 1 16 t5 t17u10 H_7 fun t18u11 H_12 =>
  bnd (abin PP .add 3 t10 (.int .i64 1)) fun t19u13 =>
  Y116 [t0, t1, t18u11, t8, t9, t19u13] H_12) (.ptr H.next 0) (H.add (.cells [.str [], .cplx .f64 0 0]))) (
  r_name_All [t5] H fun t21u14 H_15 =>
  bnd (aun .not t21u14) fun t22u16 =>
  aguard (gwant false t22u16) (fun k_19 =>
  k_19 t1 H_15) H_15 fun t24u17 H_18 =>
  aguard (gwant false t22u16) (fun k_22 =>
  bnd (lenSl t24u17) fun t25u23 =>
  k_22 t25u23 H_18) H_18 fun t25u20 H_21 =>
  aguard (gwant false t22u16) (fun k_26 =>
  bnd (abin PP .gtr 3 t25u20 (.int .i64 4)) fun t26u27 =>
  k_26 t26u27 H_21) H_21 fun t26u24 H_25 =>
  bnd (pickV t22u16 (.bool true) t26u24) fun t27u28 =>
  branch t27u28 (
  K (.bool false) H_25) (
  bnd (abin PP .eql 3 t0 (.int .i64 5)) fun t29u29 =>
  branch t29u29 (
(r_slices_ContainsFunc_api_Item_api_Item (tabL [(98, r_message_list_1), (99, r_message_list_2)])) [t1, (.fn (.func 98) [] [])] H_25 fun t31u30 H_31 =>
  bnd (aun .not t31u30) fun t32u32 =>
  K t32u32 H_31) (
(r_slices_ContainsFunc_api_Item_api_Item (tabL [(98, r_message_list_1), (99, r_message_list_2)])) [t1, (.fn (.func 99) [] [])] H_25 fun t34u33 H_34 =>
  branch t34u33 (
  K (.bool false) H_34) (
  bnd (lenSl t1) fun t36u35 =>
  bnd (abin PP .eql 3 t36u35 (.int .i64 1)) fun t37u36 =>
  aguard (gwant false t37u36) (fun k_39 =>
  k_39 t0 H_34) H_34 fun t39u37 H_38 =>
  aguard (gwant false t37u36) (fun k_42 =>
  bnd (abin PP .eql 3 t39u37 (.int .i64 1)) fun t40u43 =>
  k_42 t40u43 H_38) H_38 fun t40u40 H_41 =>
  aguard (gwant false t37u36) (fun k_46 =>
  k_46 t40u40 H_41) H_41 fun t41u44 H_45 =>
  aguard (gwant true t41u44) (fun k_49 =>
  k_49 t1 H_45) H_45 fun t42u47 H_48 =>
  aguard (gwant true t41u44) (fun k_52 =>
  bnd (lenSl t42u47) fun t43u53 =>
  k_52 t43u53 H_48) H_48 fun t43u50 H_51 =>
  aguard (gwant true t41u44) (fun k_56 =>
  bnd (abin PP .gtr 3 t43u50 (.int .i64 0)) fun t44u57 =>
  k_56 t44u57 H_51) H_51 fun t44u54 H_55 =>
  aguard (gwant false t37u36) (fun k_60 =>
  bnd (pickV t41u44 t44u54 (.bool false)) fun t45u61 =>
  k_60 t45u61 H_55) H_55 fun t45u58 H_59 =>
  bnd (pickV t37u36 (.bool true) t45u58) fun t46u62 =>
  K t46u62 H_59))))
| _ => False
def r_message_list : AFn := fun args H K => match args with
| [t0, t1] =>
  bnd (lenSl t1) fun t9u1 =>
  LoopP (r_message_list_p116 K) [t0, t1, (.nils), t1, t9u1, (.int .i64 0)] H
| _ => False
theorem s_message_list_p116 {w0 : World} (hw : Base w0) {K : AV → AH → Prop} : Pt w0 PP F_message_list F_message_list.ntmps B_message_list K 116 (fun ρ H => LoopP (r_message_list_p116 K) [ρ 0, ρ 1, ρ 5, ρ 8, ρ 9, ρ 10] H) :=
  Pt.loop (st := fun ρ => [ρ 0, ρ 1, ρ 5, ρ 8, ρ 9, ρ 10]) fun Y116 h116 => Pt.walk_eq (p := [false, false, true, false, true, true]) (ct := C_message_list) (tab := [(116, fun ρ H => Y116 [ρ 0, ρ 1, ρ 5, ρ 8, ρ 9, ρ 10] H)])
    (C_message_list_ok hw) PP_mixed B_message_list_ok ⟨h116, trivial⟩ (by kernel_rfl)
theorem r_message_list_ok {w0 : World} (hw : Base w0) : FnOk w0 PP 72 (r_message_list) := ⟨⟨F_message_list, by kernel_rfl, by kernel_rfl, by kernel_rfl⟩, sound_of_pt (fn := F_message_list) (body := B_message_list) (n := 2) (by kernel_rfl) (by kernel_rfl)
  (fun args H K h => by unfold r_message_list at h; split at h; rfl; exact h.elim) fun K => Pt.walk_eq (p := []) (ct := C_message_list) (tab := [(116, fun ρ H => LoopP (r_message_list_p116 K) [ρ 0, ρ 1, ρ 5, ρ 8, ρ 9, ρ 10] H)])
    (C_message_list_ok hw) PP_mixed B_message_list_ok ⟨s_message_list_p116 hw, trivial⟩ (by kernel_rfl)⟩

abbrev k_message_Check : Nat := 38
-- hostler/message.Check
noncomputable abbrev F_message_Check : Func := Go.Proofs.Tryz.f38
noncomputable def B_message_Check : Code := (F_message_Check.body).getD .skip
def C_message_Check : Table := tableOf [(36, r_message_Fields), (66, r_message_texts), (67, r_message_holds), (68, r_name_Right), (69, r_message_numbers), (70, r_message_number), (71, r_strings_ContainsRune), (72, r_message_list)]
theorem C_message_Check_ok {w0 : World} (hw : Base w0) : (C_message_Check).Ok w0 PP := TableOk.ok (w0 := w0) (P := PP) (l := [(36, r_message_Fields), (66, r_message_texts), (67, r_message_holds), (68, r_name_Right), (69, r_message_numbers), (70, r_message_number), (71, r_strings_ContainsRune), (72, r_message_list)]) ⟨(r_message_Fields_ok hw).call, (r_message_texts_ok hw).call, (r_message_holds_ok hw).call, (r_name_Right_ok hw).call, (r_message_numbers_ok hw).call, (r_message_number_ok hw).call, (r_strings_ContainsRune_ok hw).call, (r_message_list_ok hw).call, trivial⟩
theorem B_message_Check_ok : codeOk F_message_Check.ntmps B_message_Check = true := by kernel_rfl
def r_message_Check_p500 (K : AV → AH → Prop) (Y500 : List AV → AH → Prop) (s : List AV) (H : AH) : Prop := match s with
| [t1, t3, t45] =>
  nextMap t45 H fun t46u74 H_75 =>
  bnd (aextract t46u74 0) fun t47u76 =>
  branch t47u76 (
  bnd (entryOf t45 H_75) fun t48u77 =>
  bnd (aextract t48u77 0) fun t49u78 =>
  bnd (aextract t48u77 1) fun t50u79 =>
  r_message_holds [t3, t49u78] H_75 fun t53u80 H_81 =>
  aguard (gwant true t53u80) (fun k_84 =>
  k_84 t49u78 H_81) H_81 fun t56u82 H_83 =>
  aguard (gwant true t53u80) (fun k_87 =>
  k_87 t50u79 H_83) H_83 fun t57u85 H_86 =>
  aguard (gwant true t53u80) (fun k_90 =>
  bnd (nilck t57u85) fun t58u91 =>
  k_90 t58u91 H_86) H_86 fun t58u88 H_89 =>
  aguard (gwant true t53u80) (fun k_94 =>
  bnd (ld1 t58u88 H_89) fun t59u95 =>
  k_94 t59u95 H_89) H_89 fun t59u92 H_93 =>
  aguard (gwant true t53u80) (fun k_98 =>
  r_message_number [t56u82, t59u92] H_93 fun t60u99 H_100 =>
  k_98 t60u99 H_100) H_93 fun t60u96 H_97 =>
  aguard (gwant true t53u80) (fun k_103 =>
  bnd (aun .not t60u96) fun t61u104 =>
  k_103 t61u104 H_97) H_97 fun t61u101 H_102 =>
  bnd (pickV t53u80 t61u101 (.bool false)) fun t62u105 =>
  aguard (gwant false t62u105) (fun k_108 =>
  k_108 t53u80 H_102) H_102 fun t64u106 H_107 =>
  aguard (gwant false t62u105) (fun k_111 =>
  bnd (aun .not t64u106) fun t65u112 =>
  k_111 t65u112 H_107) H_107 fun t65u109 H_110 =>
  aguard (gwant false t62u105) (fun k_115 =>
  k_115 t65u109 H_110) H_110 fun t66u113 H_114 =>
  aguard (gwant true t66u113) (fun k_118 =>
  k_118 t50u79 H_114) H_114 fun t67u116 H_117 =>
  aguard (gwant true t66u113) (fun k_121 =>
  bnd (nilck t67u116) fun t68u122 =>
  k_121 t68u122 H_117) H_117 fun t68u119 H_120 =>
  aguard (gwant true t66u113) (fun k_125 =>
  bnd (ld1 t68u119 H_120) fun t69u126 =>
  k_125 t69u126 H_120) H_120 fun t69u123 H_124 =>
  aguard (gwant true t66u113) (fun k_129 =>
  bnd (abin PP .neq 3 t69u123 (.int .i64 0)) fun t70u130 =>
  k_129 t70u130 H_124) H_124 fun t70u127 H_128 =>
  aguard (gwant false t62u105) (fun k_133 =>
  bnd (pickV t66u113 t70u127 (.bool false)) fun t71u134 =>
  k_133 t71u134 H_128) H_128 fun t71u131 H_132 =>
  bnd (pickV t62u105 (.bool true) t71u131) fun t72u135 =>
  branch t72u135 (
  K (.int .i64 1) H_132) (
  Y500 [t1, t3, t45] H_132)) (
  r_strings_ContainsRune [t3, (.int .i32 73)] H_75 fun t74u136 H_137 =>
  aguard (gwant true t74u136) (fun k_140 =>
  bnd (aoff 0 t1) fun t77u141 =>
  k_140 t77u141 H_137) H_137 fun t77u138 H_139 =>
  aguard (gwant true t74u136) (fun k_144 =>
  bnd (ld1 t77u138 H_139) fun t78u145 =>
  k_144 t78u145 H_139) H_139 fun t78u142 H_143 =>
  aguard (gwant true t74u136) (fun k_148 =>
  bnd (aoff 8 t1) fun t79u149 =>
  k_148 t79u149 H_143) H_143 fun t79u146 H_147 =>
  aguard (gwant true t74u136) (fun k_152 =>
  bnd (ld1 t79u146 H_147) fun t80u153 =>
  k_152 t80u153 H_147) H_147 fun t80u150 H_151 =>
  aguard (gwant true t74u136) (fun k_156 =>
  r_message_list [t78u142, t80u150] H_151 fun t81u157 H_158 =>
  k_156 t81u157 H_158) H_151 fun t81u154 H_155 =>
  aguard (gwant true t74u136) (fun k_161 =>
  bnd (aun .not t81u154) fun t82u162 =>
  k_161 t82u162 H_155) H_155 fun t82u159 H_160 =>
  bnd (pickV t74u136 t82u159 (.bool false)) fun t83u163 =>
  aguard (gwant false t83u163) (fun k_166 =>
  k_166 t74u136 H_160) H_160 fun t85u164 H_165 =>
  aguard (gwant false t83u163) (fun k_169 =>
  bnd (aun .not t85u164) fun t86u170 =>
  k_169 t86u170 H_165) H_165 fun t86u167 H_168 =>
  aguard (gwant false t83u163) (fun k_173 =>
  k_173 t86u167 H_168) H_168 fun t87u171 H_172 =>
  aguard (gwant true t87u171) (fun k_176 =>
  bnd (aoff 8 t1) fun t88u177 =>
  k_176 t88u177 H_172) H_172 fun t88u174 H_175 =>
  aguard (gwant true t87u171) (fun k_180 =>
  bnd (ld1 t88u174 H_175) fun t89u181 =>
  k_180 t89u181 H_175) H_175 fun t89u178 H_179 =>
  aguard (gwant true t87u171) (fun k_184 =>
  bnd (lenSl t89u178) fun t90u185 =>
  k_184 t90u185 H_179) H_179 fun t90u182 H_183 =>
  aguard (gwant true t87u171) (fun k_188 =>
  bnd (abin PP .gtr 3 t90u182 (.int .i64 0)) fun t91u189 =>
  k_188 t91u189 H_183) H_183 fun t91u186 H_187 =>
  aguard (gwant false t83u163) (fun k_192 =>
  bnd (pickV t87u171 t91u186 (.bool false)) fun t92u193 =>
  k_192 t92u193 H_187) H_187 fun t92u190 H_191 =>
  bnd (pickV t83u163 (.bool true) t92u190) fun t93u194 =>
  branch t93u194 (
  K (.int .i64 1) H_191) (
  K (.int .i64 0) H_191))
| _ => False
def r_message_Check_p244 (K : AV → AH → Prop) (Y244 : List AV → AH → Prop) (s : List AV) (H : AH) : Prop := match s with
| [t1, t3, t17] =>
  nextMap t17 H fun t18u12 H_13 =>
  bnd (aextract t18u12 0) fun t19u14 =>
  branch t19u14 (
  bnd (entryOf t17 H_13) fun t20u15 =>
  bnd (aextract t20u15 0) fun t21u16 =>
  bnd (aextract t20u15 1) fun t22u17 =>
  r_message_holds [t3, t21u16] H_13 fun t25u18 H_19 =>
  aguard (gwant true t25u18) (fun k_22 =>
  k_22 t22u17 H_19) H_19 fun t28u20 H_21 =>
  aguard (gwant true t25u18) (fun k_25 =>
  bnd (nilck t28u20) fun t29u26 =>
  k_25 t29u26 H_21) H_21 fun t29u23 H_24 =>
  aguard (gwant true t25u18) (fun k_29 =>
  bnd (ld1 t29u23 H_24) fun t30u30 =>
  k_29 t30u30 H_24) H_24 fun t30u27 H_28 =>
  aguard (gwant true t25u18) (fun k_33 =>
  r_name_Right [t30u27] H_28 fun t31u34 H_35 =>
  k_33 t31u34 H_35) H_28 fun t31u31 H_32 =>
  aguard (gwant true t25u18) (fun k_38 =>
  bnd (aun .not t31u31) fun t32u39 =>
  k_38 t32u39 H_32) H_32 fun t32u36 H_37 =>
  bnd (pickV t25u18 t32u36 (.bool false)) fun t33u40 =>
  aguard (gwant false t33u40) (fun k_43 =>
  k_43 t25u18 H_37) H_37 fun t35u41 H_42 =>
  aguard (gwant false t33u40) (fun k_46 =>
  bnd (aun .not t35u41) fun t36u47 =>
  k_46 t36u47 H_42) H_42 fun t36u44 H_45 =>
  aguard (gwant false t33u40) (fun k_50 =>
  k_50 t36u44 H_45) H_45 fun t37u48 H_49 =>
  aguard (gwant true t37u48) (fun k_53 =>
  k_53 t22u17 H_49) H_49 fun t38u51 H_52 =>
  aguard (gwant true t37u48) (fun k_56 =>
  bnd (nilck t38u51) fun t39u57 =>
  k_56 t39u57 H_52) H_52 fun t39u54 H_55 =>
  aguard (gwant true t37u48) (fun k_60 =>
  bnd (ld1 t39u54 H_55) fun t40u61 =>
  k_60 t40u61 H_55) H_55 fun t40u58 H_59 =>
  aguard (gwant true t37u48) (fun k_64 =>
  bnd (abin PP .neq 9 t40u58 (.str [])) fun t41u65 =>
  k_64 t41u65 H_59) H_59 fun t41u62 H_63 =>
  aguard (gwant false t33u40) (fun k_68 =>
  bnd (pickV t37u48 t41u62 (.bool false)) fun t42u69 =>
  k_68 t42u69 H_63) H_63 fun t42u66 H_67 =>
  bnd (pickV t33u40 (.bool true) t42u66) fun t43u70 =>
  branch t43u70 (
  K (.int .i64 1) H_67) (
  Y244 [t1, t3, t17] H_67)) (
  r_message_numbers [t1] H_13 fun t44u71 H_72 =>
  bnd (rangeMap t44u71 H_72) fun r_73 =>
  LoopP (r_message_Check_p500 K) [t1, t3, r_73.1] r_73.2)
| _ => False
def r_message_Check : AFn := fun args H K => match args with
| [t0] =>
  bnd (boxCells t0) fun z_1 =>
(fun (t1u2 : AV) (H_3 : AH) =>
  bnd (aoff 0 t1u2) fun t11u4 =>
  bnd (ld1 t11u4 H_3) fun t12u5 =>
  r_message_Fields [t12u5] H_3 fun t13u6 H_7 =>
  bnd (abin PP .eql 9 t13u6 (.str [63])) fun t15u8 =>
  branch t15u8 (
  K (.int .i64 1) H_7) (
  r_message_texts [t1u2] H_7 fun t16u9 H_10 =>
  bnd (rangeMap t16u9 H_10) fun r_11 =>
  LoopP (r_message_Check_p244 K) [t1u2, t13u6, r_11.1] r_11.2)) (.ptr H.next 0) (H.add (.cells z_1))
| _ => False
theorem s_message_Check_p500 {w0 : World} (hw : Base w0) {K : AV → AH → Prop} : Pt w0 PP F_message_Check F_message_Check.ntmps B_message_Check K 500 (fun ρ H => LoopP (r_message_Check_p500 K) [ρ 1, ρ 3, ρ 45] H) :=
  Pt.loop (st := fun ρ => [ρ 1, ρ 3, ρ 45]) fun Y500 h500 => Pt.walk_eq (p := [false, false, true, false, true, true, true, true]) (ct := C_message_Check) (tab := [(500, fun ρ H => Y500 [ρ 1, ρ 3, ρ 45] H)])
    (C_message_Check_ok hw) PP_mixed B_message_Check_ok ⟨h500, trivial⟩ (by kernel_rfl)
theorem s_message_Check_p244 {w0 : World} (hw : Base w0) {K : AV → AH → Prop} : Pt w0 PP F_message_Check F_message_Check.ntmps B_message_Check K 244 (fun ρ H => LoopP (r_message_Check_p244 K) [ρ 1, ρ 3, ρ 17] H) :=
  Pt.loop (st := fun ρ => [ρ 1, ρ 3, ρ 17]) fun Y244 h244 => Pt.walk_eq (p := [false, false, true, false, true, true, true]) (ct := C_message_Check) (tab := [(244, fun ρ H => Y244 [ρ 1, ρ 3, ρ 17] H), (500, fun ρ H => LoopP (r_message_Check_p500 K) [ρ 1, ρ 3, ρ 45] H)])
    (C_message_Check_ok hw) PP_mixed B_message_Check_ok ⟨h244, s_message_Check_p500 hw, trivial⟩ (by kernel_rfl)
theorem r_message_Check_ok {w0 : World} (hw : Base w0) : FnOk w0 PP 38 (r_message_Check) := ⟨⟨F_message_Check, by kernel_rfl, by kernel_rfl, by kernel_rfl⟩, sound_of_pt (fn := F_message_Check) (body := B_message_Check) (n := 1) (by kernel_rfl) (by kernel_rfl)
  (fun args H K h => by unfold r_message_Check at h; split at h; rfl; exact h.elim) fun K => Pt.walk_eq (p := []) (ct := C_message_Check) (tab := [(244, fun ρ H => LoopP (r_message_Check_p244 K) [ρ 1, ρ 3, ρ 17] H)])
    (C_message_Check_ok hw) PP_mixed B_message_Check_ok ⟨s_message_Check_p244 hw, trivial⟩ (by kernel_rfl)⟩

abbrev k_hostlerkeep_Within : Nat := 15
-- hostler/hostlerkeep.Within
noncomputable abbrev F_hostlerkeep_Within : Func := Go.Proofs.Tryz.f15
noncomputable def B_hostlerkeep_Within : Code := (F_hostlerkeep_Within.body).getD .skip
def C_hostlerkeep_Within : Table := tableOf []
theorem C_hostlerkeep_Within_ok {w0 : World} (hw : Base w0) : (C_hostlerkeep_Within).Ok w0 PP := TableOk.ok (w0 := w0) (P := PP) (l := []) trivial
theorem B_hostlerkeep_Within_ok : codeOk F_hostlerkeep_Within.ntmps B_hostlerkeep_Within = true := by kernel_rfl
def r_hostlerkeep_Within_p31 (K : AV → AH → Prop) (t5 : AV) (H : AH) : Prop :=
  K t5 H
def r_hostlerkeep_Within : AFn := fun args H K => match args with
| [t0, t1] =>
  bnd (abin PP .lss 3 t1 (.int .i64 1)) fun t7u1 =>
  branch t7u1 (
  K (.int .i64 0) H) (
  bnd (abin PP .rem 3 t0 t1) fun t10u2 =>
  bnd (abin PP .lss 3 t10u2 (.int .i64 0)) fun t12u3 =>
  branch t12u3 (
  bnd (abin PP .add 3 t10u2 t1) fun t15u4 =>
  r_hostlerkeep_Within_p31 K t15u4 H) (
  r_hostlerkeep_Within_p31 K t10u2 H))
| _ => False
theorem s_hostlerkeep_Within_p31 {w0 : World} (hw : Base w0) {K : AV → AH → Prop} : Pt w0 PP F_hostlerkeep_Within F_hostlerkeep_Within.ntmps B_hostlerkeep_Within K 31 (fun ρ H => r_hostlerkeep_Within_p31 K (ρ 5) H) :=
  Pt.walk_eq (p := [true, true, true, true]) (ct := C_hostlerkeep_Within) (tab := [])
    (C_hostlerkeep_Within_ok hw) PP_mixed B_hostlerkeep_Within_ok trivial (by kernel_rfl)
theorem r_hostlerkeep_Within_ok {w0 : World} (hw : Base w0) : FnOk w0 PP 15 (r_hostlerkeep_Within) := ⟨⟨F_hostlerkeep_Within, by kernel_rfl, by kernel_rfl, by kernel_rfl⟩, sound_of_pt (fn := F_hostlerkeep_Within) (body := B_hostlerkeep_Within) (n := 2) (by kernel_rfl) (by kernel_rfl)
  (fun args H K h => by unfold r_hostlerkeep_Within at h; split at h; rfl; exact h.elim) fun K => Pt.walk_eq (p := []) (ct := C_hostlerkeep_Within) (tab := [(31, fun ρ H => r_hostlerkeep_Within_p31 K (ρ 5) H)])
    (C_hostlerkeep_Within_ok hw) PP_mixed B_hostlerkeep_Within_ok ⟨s_hostlerkeep_Within_p31 hw, trivial⟩ (by kernel_rfl)⟩

abbrev k_hostlerref01uSame : Nat := 26
-- hostler/hostlerref01.Same
noncomputable abbrev F_hostlerref01uSame : Func := Go.Proofs.Tryz.f26
noncomputable def B_hostlerref01uSame : Code := (F_hostlerref01uSame.body).getD .skip
def C_hostlerref01uSame : Table := tableOf []
theorem C_hostlerref01uSame_ok {w0 : World} (hw : Base w0) : (C_hostlerref01uSame).Ok w0 PP := TableOk.ok (w0 := w0) (P := PP) (l := []) trivial
theorem B_hostlerref01uSame_ok : codeOk F_hostlerref01uSame.ntmps B_hostlerref01uSame = true := by kernel_rfl
def r_hostlerref01uSame_p116 (K : AV → AH → Prop) (Y116 : List AV → AH → Prop) (s : List AV) (H : AH) : Prop := match s with
| [t2, t3, t71, t72] =>
  bnd (abin PP .lss 3 t72 t71) fun t73u191 =>
  branch t73u191 (
  bnd (aoff 8 t2) fun t75u192 =>
  bnd (ld1 t75u192 H) fun t76u193 =>
  bnd (idxA 2 t76u193 t72) fun t78u194 =>
  bnd (ldN 2 t78u194 H) fun t79u195 =>
  bnd (aoff 8 t3) fun t80u196 =>
  bnd (ld1 t80u196 H) fun t81u197 =>
  bnd (idxA 2 t81u197 t72) fun t83u198 =>
  bnd (ldN 2 t83u198 H) fun t84u199 =>
  bnd (eqAgg .neq [(0, .str), (1, .cplx)] t79u195 t84u199) fun t85u200 =>
  branch t85u200 (
  K (.bool false) H) (
  bnd (abin PP .add 3 t72 (.int .i64 1)) fun t86u201 =>
  Y116 [t2, t3, t71, t86u201] H)) (
  K (.bool true) H)
| _ => False
def r_hostlerref01uSame : AFn := fun args H K => match args with
| [t0, t1] =>
  bnd (boxCells t0) fun z_1 =>
(fun (t2u2 : AV) (H_3 : AH) =>
  bnd (boxCells t1) fun z_4 =>
(fun (t3u5 : AV) (H_6 : AH) =>
  bnd (aoff 0 t2u2) fun t6u7 =>
  bnd (ld1 t6u7 H_6) fun t7u8 =>
  bnd (aoff 0 t3u5) fun t8u9 =>
  bnd (ld1 t8u9 H_6) fun t9u10 =>
  bnd (abin PP .neq 3 t7u8 t9u10) fun t10u11 =>
  aguard (gwant false t10u11) (fun k_14 =>
  bnd (aoff 1 t2u2) fun t12u15 =>
  k_14 t12u15 H_6) H_6 fun t12u12 H_13 =>
  aguard (gwant false t10u11) (fun k_18 =>
  bnd (ld1 t12u12 H_13) fun t13u19 =>
  k_18 t13u19 H_13) H_13 fun t13u16 H_17 =>
  aguard (gwant false t10u11) (fun k_22 =>
  bnd (aoff 1 t3u5) fun t14u23 =>
  k_22 t14u23 H_17) H_17 fun t14u20 H_21 =>
  aguard (gwant false t10u11) (fun k_26 =>
  bnd (ld1 t14u20 H_21) fun t15u27 =>
  k_26 t15u27 H_21) H_21 fun t15u24 H_25 =>
  aguard (gwant false t10u11) (fun k_30 =>
  bnd (abin PP .neq 9 t13u16 t15u24) fun t16u31 =>
  k_30 t16u31 H_25) H_25 fun t16u28 H_29 =>
  bnd (pickV t10u11 (.bool true) t16u28) fun t17u32 =>
  aguard (gwant false t17u32) (fun k_35 =>
  bnd (aoff 2 t2u2) fun t19u36 =>
  k_35 t19u36 H_29) H_29 fun t19u33 H_34 =>
  aguard (gwant false t17u32) (fun k_39 =>
  bnd (ld1 t19u33 H_34) fun t20u40 =>
  k_39 t20u40 H_34) H_34 fun t20u37 H_38 =>
  aguard (gwant false t17u32) (fun k_43 =>
  bnd (aoff 2 t3u5) fun t21u44 =>
  k_43 t21u44 H_38) H_38 fun t21u41 H_42 =>
  aguard (gwant false t17u32) (fun k_47 =>
  bnd (ld1 t21u41 H_42) fun t22u48 =>
  k_47 t22u48 H_42) H_42 fun t22u45 H_46 =>
  aguard (gwant false t17u32) (fun k_51 =>
  bnd (abin PP .neq 9 t20u37 t22u45) fun t23u52 =>
  k_51 t23u52 H_46) H_46 fun t23u49 H_50 =>
  bnd (pickV t17u32 (.bool true) t23u49) fun t24u53 =>
  aguard (gwant false t24u53) (fun k_56 =>
  bnd (aoff 3 t2u2) fun t26u57 =>
  k_56 t26u57 H_50) H_50 fun t26u54 H_55 =>
  aguard (gwant false t24u53) (fun k_60 =>
  bnd (ld1 t26u54 H_55) fun t27u61 =>
  k_60 t27u61 H_55) H_55 fun t27u58 H_59 =>
  aguard (gwant false t24u53) (fun k_64 =>
  bnd (aoff 3 t3u5) fun t28u65 =>
  k_64 t28u65 H_59) H_59 fun t28u62 H_63 =>
  aguard (gwant false t24u53) (fun k_68 =>
  bnd (ld1 t28u62 H_63) fun t29u69 =>
  k_68 t29u69 H_63) H_63 fun t29u66 H_67 =>
  aguard (gwant false t24u53) (fun k_72 =>
  bnd (abin PP .neq 9 t27u58 t29u66) fun t30u73 =>
  k_72 t30u73 H_67) H_67 fun t30u70 H_71 =>
  bnd (pickV t24u53 (.bool true) t30u70) fun t31u74 =>
  aguard (gwant false t31u74) (fun k_77 =>
  bnd (aoff 4 t2u2) fun t33u78 =>
  k_77 t33u78 H_71) H_71 fun t33u75 H_76 =>
  aguard (gwant false t31u74) (fun k_81 =>
  bnd (ld1 t33u75 H_76) fun t34u82 =>
  k_81 t34u82 H_76) H_76 fun t34u79 H_80 =>
  aguard (gwant false t31u74) (fun k_85 =>
  bnd (aoff 4 t3u5) fun t35u86 =>
  k_85 t35u86 H_80) H_80 fun t35u83 H_84 =>
  aguard (gwant false t31u74) (fun k_89 =>
  bnd (ld1 t35u83 H_84) fun t36u90 =>
  k_89 t36u90 H_84) H_84 fun t36u87 H_88 =>
  aguard (gwant false t31u74) (fun k_93 =>
  bnd (abin PP .neq 3 t34u79 t36u87) fun t37u94 =>
  k_93 t37u94 H_88) H_88 fun t37u91 H_92 =>
  bnd (pickV t31u74 (.bool true) t37u91) fun t38u95 =>
  aguard (gwant false t38u95) (fun k_98 =>
  bnd (aoff 5 t2u2) fun t40u99 =>
  k_98 t40u99 H_92) H_92 fun t40u96 H_97 =>
  aguard (gwant false t38u95) (fun k_102 =>
  bnd (ld1 t40u96 H_97) fun t41u103 =>
  k_102 t41u103 H_97) H_97 fun t41u100 H_101 =>
  aguard (gwant false t38u95) (fun k_106 =>
  bnd (aoff 5 t3u5) fun t42u107 =>
  k_106 t42u107 H_101) H_101 fun t42u104 H_105 =>
  aguard (gwant false t38u95) (fun k_110 =>
  bnd (ld1 t42u104 H_105) fun t43u111 =>
  k_110 t43u111 H_105) H_105 fun t43u108 H_109 =>
  aguard (gwant false t38u95) (fun k_114 =>
  bnd (abin PP .neq 3 t41u100 t43u108) fun t44u115 =>
  k_114 t44u115 H_109) H_109 fun t44u112 H_113 =>
  bnd (pickV t38u95 (.bool true) t44u112) fun t45u116 =>
  aguard (gwant false t45u116) (fun k_119 =>
  bnd (aoff 6 t2u2) fun t47u120 =>
  k_119 t47u120 H_113) H_113 fun t47u117 H_118 =>
  aguard (gwant false t45u116) (fun k_123 =>
  bnd (ld1 t47u117 H_118) fun t48u124 =>
  k_123 t48u124 H_118) H_118 fun t48u121 H_122 =>
  aguard (gwant false t45u116) (fun k_127 =>
  bnd (aoff 6 t3u5) fun t49u128 =>
  k_127 t49u128 H_122) H_122 fun t49u125 H_126 =>
  aguard (gwant false t45u116) (fun k_131 =>
  bnd (ld1 t49u125 H_126) fun t50u132 =>
  k_131 t50u132 H_126) H_126 fun t50u129 H_130 =>
  aguard (gwant false t45u116) (fun k_135 =>
  bnd (abin PP .neq 3 t48u121 t50u129) fun t51u136 =>
  k_135 t51u136 H_130) H_130 fun t51u133 H_134 =>
  bnd (pickV t45u116 (.bool true) t51u133) fun t52u137 =>
  aguard (gwant false t52u137) (fun k_140 =>
  bnd (aoff 7 t2u2) fun t54u141 =>
  k_140 t54u141 H_134) H_134 fun t54u138 H_139 =>
  aguard (gwant false t52u137) (fun k_144 =>
  bnd (ld1 t54u138 H_139) fun t55u145 =>
  k_144 t55u145 H_139) H_139 fun t55u142 H_143 =>
  aguard (gwant false t52u137) (fun k_148 =>
  bnd (aoff 7 t3u5) fun t56u149 =>
  k_148 t56u149 H_143) H_143 fun t56u146 H_147 =>
  aguard (gwant false t52u137) (fun k_152 =>
  bnd (ld1 t56u146 H_147) fun t57u153 =>
  k_152 t57u153 H_147) H_147 fun t57u150 H_151 =>
  aguard (gwant false t52u137) (fun k_156 =>
  bnd (abin PP .neq 3 t55u142 t57u150) fun t58u157 =>
  k_156 t58u157 H_151) H_151 fun t58u154 H_155 =>
  bnd (pickV t52u137 (.bool true) t58u154) fun t59u158 =>
  aguard (gwant false t59u158) (fun k_161 =>
  bnd (aoff 8 t2u2) fun t61u162 =>
  k_161 t61u162 H_155) H_155 fun t61u159 H_160 =>
  aguard (gwant false t59u158) (fun k_165 =>
  bnd (ld1 t61u159 H_160) fun t62u166 =>
  k_165 t62u166 H_160) H_160 fun t62u163 H_164 =>
  aguard (gwant false t59u158) (fun k_169 =>
  bnd (lenSl t62u163) fun t63u170 =>
  k_169 t63u170 H_164) H_164 fun t63u167 H_168 =>
  aguard (gwant false t59u158) (fun k_173 =>
  bnd (aoff 8 t3u5) fun t64u174 =>
  k_173 t64u174 H_168) H_168 fun t64u171 H_172 =>
  aguard (gwant false t59u158) (fun k_177 =>
  bnd (ld1 t64u171 H_172) fun t65u178 =>
  k_177 t65u178 H_172) H_172 fun t65u175 H_176 =>
  aguard (gwant false t59u158) (fun k_181 =>
  bnd (lenSl t65u175) fun t66u182 =>
  k_181 t66u182 H_176) H_176 fun t66u179 H_180 =>
  aguard (gwant false t59u158) (fun k_185 =>
  bnd (abin PP .neq 3 t63u167 t66u179) fun t67u186 =>
  k_185 t67u186 H_180) H_180 fun t67u183 H_184 =>
  bnd (pickV t59u158 (.bool true) t67u183) fun t68u187 =>
  branch t68u187 (
  K (.bool false) H_184) (
  bnd (aoff 8 t2u2) fun t69u188 =>
  bnd (ld1 t69u188 H_184) fun t70u189 =>
  bnd (lenSl t70u189) fun t71u190 =>
  LoopP (r_hostlerref01uSame_p116 K) [t2u2, t3u5, t71u190, (.int .i64 0)] H_184)) (.ptr H_3.next 0) (H_3.add (.cells z_4))) (.ptr H.next 0) (H.add (.cells z_1))
| _ => False
theorem s_hostlerref01uSame_p116 {w0 : World} (hw : Base w0) {K : AV → AH → Prop} : Pt w0 PP F_hostlerref01uSame F_hostlerref01uSame.ntmps B_hostlerref01uSame K 116 (fun ρ H => LoopP (r_hostlerref01uSame_p116 K) [ρ 2, ρ 3, ρ 71, ρ 72] H) :=
  Pt.loop (st := fun ρ => [ρ 2, ρ 3, ρ 71, ρ 72]) fun Y116 h116 => Pt.walk_eq (p := [false, false, true, false, true, true]) (ct := C_hostlerref01uSame) (tab := [(116, fun ρ H => Y116 [ρ 2, ρ 3, ρ 71, ρ 72] H)])
    (C_hostlerref01uSame_ok hw) PP_mixed B_hostlerref01uSame_ok ⟨h116, trivial⟩ (by kernel_rfl)
theorem r_hostlerref01uSame_ok {w0 : World} (hw : Base w0) : FnOk w0 PP 26 (r_hostlerref01uSame) := ⟨⟨F_hostlerref01uSame, by kernel_rfl, by kernel_rfl, by kernel_rfl⟩, sound_of_pt (fn := F_hostlerref01uSame) (body := B_hostlerref01uSame) (n := 2) (by kernel_rfl) (by kernel_rfl)
  (fun args H K h => by unfold r_hostlerref01uSame at h; split at h; rfl; exact h.elim) fun K => Pt.walk_eq (p := []) (ct := C_hostlerref01uSame) (tab := [(116, fun ρ H => LoopP (r_hostlerref01uSame_p116 K) [ρ 2, ρ 3, ρ 71, ρ 72] H)])
    (C_hostlerref01uSame_ok hw) PP_mixed B_hostlerref01uSame_ok ⟨s_hostlerref01uSame_p116 hw, trivial⟩ (by kernel_rfl)⟩

abbrev k_hostlerlaw21uSameStep : Nat := 25
-- hostler/hostlerlaw21.SameStep
noncomputable abbrev F_hostlerlaw21uSameStep : Func := Go.Proofs.Tryz.f25
noncomputable def B_hostlerlaw21uSameStep : Code := (F_hostlerlaw21uSameStep.body).getD .skip
def C_hostlerlaw21uSameStep : Table := tableOf [(26, r_hostlerref01uSame)]
theorem C_hostlerlaw21uSameStep_ok {w0 : World} (hw : Base w0) : (C_hostlerlaw21uSameStep).Ok w0 PP := TableOk.ok (w0 := w0) (P := PP) (l := [(26, r_hostlerref01uSame)]) ⟨(r_hostlerref01uSame_ok hw).call, trivial⟩
theorem B_hostlerlaw21uSameStep_ok : codeOk F_hostlerlaw21uSameStep.ntmps B_hostlerlaw21uSameStep = true := by kernel_rfl
def r_hostlerlaw21uSameStep : AFn := fun args H K => match args with
| [t0, t1] =>
  bnd (boxCells t0) fun z_1 =>
(fun (t2u2 : AV) (H_3 : AH) =>
  bnd (boxCells t1) fun z_4 =>
(fun (t3u5 : AV) (H_6 : AH) =>
  bnd (aoff 0 t2u2) fun t5u7 =>
  bnd (ld1 t5u7 H_6) fun t6u8 =>
  bnd (aoff 0 t3u5) fun t7u9 =>
  bnd (ld1 t7u9 H_6) fun t8u10 =>
  bnd (abin PP .eql 3 t6u8 t8u10) fun t9u11 =>
  aguard (gwant true t9u11) (fun k_14 =>
  bnd (aoff 10 t2u2) fun t11u15 =>
  k_14 t11u15 H_6) H_6 fun t11u12 H_13 =>
  aguard (gwant true t9u11) (fun k_18 =>
  bnd (ld1 t11u12 H_13) fun t12u19 =>
  k_18 t12u19 H_13) H_13 fun t12u16 H_17 =>
  aguard (gwant true t9u11) (fun k_22 =>
  bnd (aoff 10 t3u5) fun t13u23 =>
  k_22 t13u23 H_17) H_17 fun t13u20 H_21 =>
  aguard (gwant true t9u11) (fun k_26 =>
  bnd (ld1 t13u20 H_21) fun t14u27 =>
  k_26 t14u27 H_21) H_21 fun t14u24 H_25 =>
  aguard (gwant true t9u11) (fun k_30 =>
  bnd (abin PP .eql 3 t12u16 t14u24) fun t15u31 =>
  k_30 t15u31 H_25) H_25 fun t15u28 H_29 =>
  bnd (pickV t9u11 t15u28 (.bool false)) fun t16u32 =>
  aguard (gwant true t16u32) (fun k_35 =>
  bnd (aoff 11 t2u2) fun t18u36 =>
  k_35 t18u36 H_29) H_29 fun t18u33 H_34 =>
  aguard (gwant true t16u32) (fun k_39 =>
  bnd (ld1 t18u33 H_34) fun t19u40 =>
  k_39 t19u40 H_34) H_34 fun t19u37 H_38 =>
  aguard (gwant true t16u32) (fun k_43 =>
  bnd (aoff 11 t3u5) fun t20u44 =>
  k_43 t20u44 H_38) H_38 fun t20u41 H_42 =>
  aguard (gwant true t16u32) (fun k_47 =>
  bnd (ld1 t20u41 H_42) fun t21u48 =>
  k_47 t21u48 H_42) H_42 fun t21u45 H_46 =>
  aguard (gwant true t16u32) (fun k_51 =>
  bnd (abin PP .eql 3 t19u37 t21u45) fun t22u52 =>
  k_51 t22u52 H_46) H_46 fun t22u49 H_50 =>
  bnd (pickV t16u32 t22u49 (.bool false)) fun t23u53 =>
  aguard (gwant true t23u53) (fun k_56 =>
  bnd (aoff 1 t2u2) fun t25u57 =>
  k_56 t25u57 H_50) H_50 fun t25u54 H_55 =>
  aguard (gwant true t23u53) (fun k_60 =>
  bnd (ldN 9 t25u54 H_55) fun t26u61 =>
  k_60 t26u61 H_55) H_55 fun t26u58 H_59 =>
  aguard (gwant true t23u53) (fun k_64 =>
  bnd (aoff 1 t3u5) fun t27u65 =>
  k_64 t27u65 H_59) H_59 fun t27u62 H_63 =>
  aguard (gwant true t23u53) (fun k_68 =>
  bnd (ldN 9 t27u62 H_63) fun t28u69 =>
  k_68 t28u69 H_63) H_63 fun t28u66 H_67 =>
  aguard (gwant true t23u53) (fun k_72 =>
  r_hostlerref01uSame [t26u58, t28u66] H_67 fun t29u73 H_74 =>
  k_72 t29u73 H_74) H_67 fun t29u70 H_71 =>
  bnd (pickV t23u53 t29u70 (.bool false)) fun t30u75 =>
  K t30u75 H_71) (.ptr H_3.next 0) (H_3.add (.cells z_4))) (.ptr H.next 0) (H.add (.cells z_1))
| _ => False
theorem r_hostlerlaw21uSameStep_ok {w0 : World} (hw : Base w0) : FnOk w0 PP 25 (r_hostlerlaw21uSameStep) := ⟨⟨F_hostlerlaw21uSameStep, by kernel_rfl, by kernel_rfl, by kernel_rfl⟩, sound_of_pt (fn := F_hostlerlaw21uSameStep) (body := B_hostlerlaw21uSameStep) (n := 2) (by kernel_rfl) (by kernel_rfl)
  (fun args H K h => by unfold r_hostlerlaw21uSameStep at h; split at h; rfl; exact h.elim) fun K => Pt.walk_eq (p := []) (ct := C_hostlerlaw21uSameStep) (tab := [])
    (C_hostlerlaw21uSameStep_ok hw) PP_mixed B_hostlerlaw21uSameStep_ok trivial (by kernel_rfl)⟩

abbrev k_script_Number : Nat := 8
-- hostler/script.Number
noncomputable abbrev F_script_Number : Func := Go.Proofs.Tryz.f8
noncomputable def B_script_Number : Code := (F_script_Number.body).getD .skip
def C_script_Number : Table := tableOf [(23, r_strings_Trim), (24, r_strconv_Atoi)]
theorem C_script_Number_ok {w0 : World} (hw : Base w0) : (C_script_Number).Ok w0 PP := TableOk.ok (w0 := w0) (P := PP) (l := [(23, r_strings_Trim), (24, r_strconv_Atoi)]) ⟨(r_strings_Trim_ok hw).call, (r_strconv_Atoi_ok hw).call, trivial⟩
theorem B_script_Number_ok : codeOk F_script_Number.ntmps B_script_Number = true := by kernel_rfl
def r_script_Number : AFn := fun args H K => match args with
| [t0] =>
  bnd (abin PP .eql 9 t0 (.str [])) fun t7u1 =>
  aguard (gwant false t7u1) (fun k_4 =>
  k_4 t0 H) H fun t9u2 H_3 =>
  aguard (gwant false t7u1) (fun k_7 =>
  bnd (lenStr t9u2) fun t10u8 =>
  k_7 t10u8 H_3) H_3 fun t10u5 H_6 =>
  aguard (gwant false t7u1) (fun k_11 =>
  bnd (abin PP .gtr 3 t10u5 (.int .i64 9)) fun t11u12 =>
  k_11 t11u12 H_6) H_6 fun t11u9 H_10 =>
  bnd (pickV t7u1 (.bool true) t11u9) fun t12u13 =>
  aguard (gwant false t12u13) (fun k_16 =>
  k_16 t0 H_10) H_10 fun t14u14 H_15 =>
  aguard (gwant false t12u13) (fun k_19 =>
  r_strings_Trim [t14u14, (.str [48, 49, 50, 51, 52, 53, 54, 55, 56, 57])] H_15 fun t15u20 H_21 =>
  k_19 t15u20 H_21) H_15 fun t15u17 H_18 =>
  aguard (gwant false t12u13) (fun k_24 =>
  bnd (abin PP .neq 9 t15u17 (.str [])) fun t16u25 =>
  k_24 t16u25 H_18) H_18 fun t16u22 H_23 =>
  bnd (pickV t12u13 (.bool true) t16u22) fun t17u26 =>
  aguard (gwant false t17u26) (fun k_29 =>
  k_29 t0 H_23) H_23 fun t19u27 H_28 =>
  aguard (gwant false t17u26) (fun k_32 =>
  bnd (idxStr t19u27 (.int .i64 0)) fun t20u33 =>
  k_32 t20u33 H_28) H_28 fun t20u30 H_31 =>
  aguard (gwant false t17u26) (fun k_36 =>
  bnd (abin PP .eql 5 t20u30 (.int .u8 48)) fun t21u37 =>
  k_36 t21u37 H_31) H_31 fun t21u34 H_35 =>
  aguard (gwant false t17u26) (fun k_40 =>
  k_40 t21u34 H_35) H_35 fun t22u38 H_39 =>
  aguard (gwant true t22u38) (fun k_43 =>
  k_43 t0 H_39) H_39 fun t23u41 H_42 =>
  aguard (gwant true t22u38) (fun k_46 =>
  bnd (abin PP .neq 9 t23u41 (.str [48])) fun t24u47 =>
  k_46 t24u47 H_42) H_42 fun t24u44 H_45 =>
  aguard (gwant false t17u26) (fun k_50 =>
  bnd (pickV t22u38 t24u44 (.bool false)) fun t25u51 =>
  k_50 t25u51 H_45) H_45 fun t25u48 H_49 =>
  bnd (pickV t17u26 (.bool true) t25u48) fun t26u52 =>
  branch t26u52 (
  K (.tup [(.int .i64 0), (.bool false)]) H_49) (
  r_strconv_Atoi [t0] H_49 fun t29u53 H_54 =>
  bnd (aextract t29u53 0) fun t30u55 =>
  bnd (aextract t29u53 1) fun t31u56 =>
  bnd (cmpNil .i .eql t31u56) fun t34u57 =>
  K (.tup [t30u55, t34u57]) H_54)
| _ => False
theorem r_script_Number_ok {w0 : World} (hw : Base w0) : FnOk w0 PP 8 (r_script_Number) := ⟨⟨F_script_Number, by kernel_rfl, by kernel_rfl, by kernel_rfl⟩, sound_of_pt (fn := F_script_Number) (body := B_script_Number) (n := 1) (by kernel_rfl) (by kernel_rfl)
  (fun args H K h => by unfold r_script_Number at h; split at h; rfl; exact h.elim) fun K => Pt.walk_eq (p := []) (ct := C_script_Number) (tab := [])
    (C_script_Number_ok hw) PP_mixed B_script_Number_ok trivial (by kernel_rfl)⟩

abbrev k_script_kinds : Nat := 35
-- hostler/script.kinds
noncomputable abbrev F_script_kinds : Func := Go.Proofs.Tryz.f35
noncomputable def B_script_kinds : Code := (F_script_kinds.body).getD .skip
def C_script_kinds : Table := tableOf []
theorem C_script_kinds_ok {w0 : World} (hw : Base w0) : (C_script_kinds).Ok w0 PP := TableOk.ok (w0 := w0) (P := PP) (l := []) trivial
theorem B_script_kinds_ok : codeOk F_script_kinds.ntmps B_script_kinds = true := by kernel_rfl
def r_script_kinds : AFn := fun args H K => match args with
| [] =>
(fun (t1u1 : AV) (H_2 : AH) =>
  bnd (mput (.one .str) t1u1 (.str [114, 117, 110]) (.int .i64 1) H_2) fun H_3 =>
  bnd (mput (.one .str) t1u1 (.str [107, 105, 108, 108]) (.int .i64 2) H_3) fun H_4 =>
  bnd (mput (.one .str) t1u1 (.str [115, 104, 117, 116]) (.int .i64 3) H_4) fun H_5 =>
  bnd (mput (.one .str) t1u1 (.str [97, 99, 107]) (.int .i64 4) H_5) fun H_6 =>
  bnd (mput (.one .str) t1u1 (.str [97, 115, 107]) (.int .i64 5) H_6) fun H_7 =>
  bnd (mput (.one .str) t1u1 (.str [119, 101, 108, 99, 111, 109, 101]) (.int .i64 6) H_7) fun H_8 =>
  bnd (mput (.one .str) t1u1 (.str [104, 101, 108, 108, 111]) (.int .i64 7) H_8) fun H_9 =>
  bnd (mput (.one .str) t1u1 (.str [114, 101, 112, 111, 114, 116]) (.int .i64 8) H_9) fun H_10 =>
  bnd (mput (.one .str) t1u1 (.str [103, 111, 110, 101]) (.int .i64 9) H_10) fun H_11 =>
  K t1u1 H_11) (.map H.next) (H.add (.map [] 0))
| _ => False
theorem r_script_kinds_ok {w0 : World} (hw : Base w0) : FnOk w0 PP 35 (r_script_kinds) := ⟨⟨F_script_kinds, by kernel_rfl, by kernel_rfl, by kernel_rfl⟩, sound_of_pt (fn := F_script_kinds) (body := B_script_kinds) (n := 0) (by kernel_rfl) (by kernel_rfl)
  (fun args H K h => by unfold r_script_kinds at h; split at h; rfl; exact h.elim) fun K => Pt.walk_eq (p := []) (ct := C_script_kinds) (tab := [])
    (C_script_kinds_ok hw) PP_mixed B_script_kinds_ok trivial (by kernel_rfl)⟩

abbrev k_script_words_next : Nat := 64
-- (*hostler/script.words).next
noncomputable abbrev F_script_words_next : Func := Go.Proofs.Tryz.f64
noncomputable def B_script_words_next : Code := (F_script_words_next.body).getD .skip
def C_script_words_next : Table := tableOf []
theorem C_script_words_next_ok {w0 : World} (hw : Base w0) : (C_script_words_next).Ok w0 PP := TableOk.ok (w0 := w0) (P := PP) (l := []) trivial
theorem B_script_words_next_ok : codeOk F_script_words_next.ntmps B_script_words_next = true := by kernel_rfl
def r_script_words_next : AFn := fun args H K => match args with
| [t0] =>
  bnd (nilck t0) fun t5u1 =>
  bnd (aoff 0 t5u1) fun t6u2 =>
  bnd (ld1 t6u2 H) fun t7u3 =>
  bnd (lenSl t7u3) fun t8u4 =>
  bnd (abin PP .eql 3 t8u4 (.int .i64 0)) fun t9u5 =>
  branch t9u5 (
  bnd (nilck t0) fun t11u6 =>
  bnd (aoff 1 t11u6) fun t12u7 =>
  bnd (ast 1 t12u7 (.bool true) H) fun H_8 =>
  K (.str []) H_8) (
  bnd (nilck t0) fun t14u9 =>
  bnd (aoff 0 t14u9) fun t15u10 =>
  bnd (ld1 t15u10 H) fun t16u11 =>
  bnd (idxA 1 t16u11 (.int .i64 0)) fun t17u12 =>
  bnd (ld1 t17u12 H) fun t18u13 =>
  bnd (nilck t0) fun t21u14 =>
  bnd (aoff 0 t21u14) fun t22u15 =>
  bnd (ld1 t22u15 H) fun t23u16 =>
  bnd (sliceSl 1 t23u16 (some (.int .i64 1)) none none) fun t24u17 =>
  bnd (nilck t0) fun t25u18 =>
  bnd (aoff 0 t25u18) fun t26u19 =>
  bnd (ast 1 t26u19 t24u17 H) fun H_20 =>
  K t18u13 H_20)
| _ => False
theorem r_script_words_next_ok {w0 : World} (hw : Base w0) : FnOk w0 PP 64 (r_script_words_next) := ⟨⟨F_script_words_next, by kernel_rfl, by kernel_rfl, by kernel_rfl⟩, sound_of_pt (fn := F_script_words_next) (body := B_script_words_next) (n := 1) (by kernel_rfl) (by kernel_rfl)
  (fun args H K h => by unfold r_script_words_next at h; split at h; rfl; exact h.elim) fun K => Pt.walk_eq (p := []) (ct := C_script_words_next) (tab := [])
    (C_script_words_next_ok hw) PP_mixed B_script_words_next_ok trivial (by kernel_rfl)⟩

abbrev k_script_words_number : Nat := 34
-- (*hostler/script.words).number
noncomputable abbrev F_script_words_number : Func := Go.Proofs.Tryz.f34
noncomputable def B_script_words_number : Code := (F_script_words_number.body).getD .skip
def C_script_words_number : Table := tableOf [(8, r_script_Number), (64, r_script_words_next)]
theorem C_script_words_number_ok {w0 : World} (hw : Base w0) : (C_script_words_number).Ok w0 PP := TableOk.ok (w0 := w0) (P := PP) (l := [(8, r_script_Number), (64, r_script_words_next)]) ⟨(r_script_Number_ok hw).call, (r_script_words_next_ok hw).call, trivial⟩
theorem B_script_words_number_ok : codeOk F_script_words_number.ntmps B_script_words_number = true := by kernel_rfl
def r_script_words_number : AFn := fun args H K => match args with
| [t0] =>
  r_script_words_next [t0] H fun t7u1 H_2 =>
  r_script_Number [t7u1] H_2 fun t8u3 H_4 =>
  bnd (aextract t8u3 0) fun t9u5 =>
  bnd (aextract t8u3 1) fun t10u6 =>
  bnd (nilck t0) fun t13u7 =>
  bnd (aoff 1 t13u7) fun t14u8 =>
  bnd (ld1 t14u8 H_4) fun t15u9 =>
  aguard (gwant false t15u9) (fun k_12 =>
  k_12 t10u6 H_4) H_4 fun t17u10 H_11 =>
  aguard (gwant false t15u9) (fun k_15 =>
  bnd (aun .not t17u10) fun t18u16 =>
  k_15 t18u16 H_11) H_11 fun t18u13 H_14 =>
  bnd (pickV t15u9 (.bool true) t18u13) fun t19u17 =>
  bnd (nilck t0) fun t20u18 =>
  bnd (aoff 1 t20u18) fun t21u19 =>
  bnd (ast 1 t21u19 t19u17 H_14) fun H_20 =>
  K t9u5 H_20
| _ => False
theorem r_script_words_number_ok {w0 : World} (hw : Base w0) : FnOk w0 PP 34 (r_script_words_number) := ⟨⟨F_script_words_number, by kernel_rfl, by kernel_rfl, by kernel_rfl⟩, sound_of_pt (fn := F_script_words_number) (body := B_script_words_number) (n := 1) (by kernel_rfl) (by kernel_rfl)
  (fun args H K h => by unfold r_script_words_number at h; split at h; rfl; exact h.elim) fun K => Pt.walk_eq (p := []) (ct := C_script_words_number) (tab := [])
    (C_script_words_number_ok hw) PP_mixed B_script_words_number_ok trivial (by kernel_rfl)⟩

abbrev k_script_words_items : Nat := 65
-- (*hostler/script.words).items
noncomputable abbrev F_script_words_items : Func := Go.Proofs.Tryz.f65
noncomputable def B_script_words_items : Code := (F_script_words_items.body).getD .skip
def C_script_words_items : Table := tableOf [(34, r_script_words_number), (64, r_script_words_next), (94, r_need_Of)]
theorem C_script_words_items_ok {w0 : World} (hw : Base w0) : (C_script_words_items).Ok w0 PP := TableOk.ok (w0 := w0) (P := PP) (l := [(34, r_script_words_number), (64, r_script_words_next), (94, r_need_Of)]) ⟨(r_script_words_number_ok hw).call, (r_script_words_next_ok hw).call, (r_need_Of_ok hw).call, trivial⟩
theorem B_script_words_items_ok : codeOk F_script_words_items.ntmps B_script_words_items = true := by kernel_rfl
def r_script_words_items_p907 (K : AV → AH → Prop) (Y56 : List AV → AH → Prop) (t0 : AV) (t1 : AV) (t5 : AV) (t6 : AV) (H : AH) : Prop :=
  bnd (ldN 2 t6 H) fun t31u40 =>
  bnd (buildSl 2 1 [(0, t31u40)]) fun t32u41 =>
  appK 2 32 t5 t32u41 H fun t33u42 H_43 =>
  Y56 [t0, t1, t33u42] H_43
def r_script_words_items_p56 (K : AV → AH → Prop) (Y56 : List AV → AH → Prop) (s : List AV) (H : AH) : Prop := match s with
| [t0, t1, t5] =>
  bnd (nilck t0) fun t8u1 =>
  bnd (aoff 0 t8u1) fun t9u2 =>
  bnd (ld1 t9u2 H) fun t10u3 =>
  bnd (lenSl t10u3) fun t11u4 =>
  bnd (abin PP .gtr 3 t11u4 (.int .i64 0)) fun t12u5 =>
  aguard (gwant true t12u5) (fun k_8 =>
  k_8 t0 H) H fun t14u6 H_7 =>
  aguard (gwant true t12u5) (fun k_11 =>
  bnd (nilck t14u6) fun t15u12 =>
  k_11 t15u12 H_7) H_7 fun t15u9 H_10 =>
  aguard (gwant true t12u5) (fun k_15 =>
  bnd (aoff 1 t15u9) fun t16u16 =>
  k_15 t16u16 H_10) H_10 fun t16u13 H_14 =>
  aguard (gwant true t12u5) (fun k_19 =>
  bnd (ld1 t16u13 H_14) fun t17u20 =>
  k_19 t17u20 H_14) H_14 fun t17u17 H_18 =>
  aguard (gwant true t12u5) (fun k_23 =>
  bnd (aun .not t17u17) fun t18u24 =>
  k_23 t18u24 H_18) H_18 fun t18u21 H_22 =>
  bnd (pickV t12u5 t18u21 (.bool false)) fun t19u25 =>
  branch t19u25 (
  r_script_words_next [t0] H_22 fun t21u26 H_27 =>
  bnd (astruct [(0, 1), (1, 1)] [.str [], .cplx .f64 0 0] [(0, t21u26)]) fun t22u28 =>
(fun (t6u29 : AV) (H_30 : AH) =>
  bnd (ast 2 t6u29 t22u28 H_30) fun H_31 =>
  branch t1 (
  r_script_words_number [t0] H_31 fun t25u32 H_33 =>
  r_script_words_number [t0] H_33 fun t27u34 H_35 =>
  r_need_Of [t25u32, t27u34] H_35 fun t28u36 H_37 =>
  bnd (aoff 1 t6u29) fun t29u38 =>
  bnd (ast 1 t29u38 t28u36 H_37) fun H_39 =>
  r_script_words_items_p907 K Y56 t0 t1 t5 t6u29 H_39) (
  r_script_words_items_p907 K Y56 t0 t1 t5 t6u29 H_31)) (.ptr H_27.next 0) (H_27.add (.cells [.str [], .cplx .f64 0 0]))) (
  K t5 H_22)
| _ => False
def r_script_words_items : AFn := fun args H K => match args with
| [t0, t1] =>
  LoopP (r_script_words_items_p56 K) [t0, t1, (.nils)] H
| _ => False
theorem s_script_words_items_p907 {w0 : World} (hw : Base w0) {K : AV → AH → Prop} {Y56 : List AV → AH → Prop} (h56 : Pt w0 PP F_script_words_items F_script_words_items.ntmps B_script_words_items K 56 (fun ρ H => Y56 [ρ 0, ρ 1, ρ 5] H)) : Pt w0 PP F_script_words_items F_script_words_items.ntmps B_script_words_items K 907 (fun ρ H => r_script_words_items_p907 K Y56 (ρ 0) (ρ 1) (ρ 5) (ρ 6) H) :=
  Pt.walk_eq (p := [true, true, false, true, false, false, false, true, true]) (ct := C_script_words_items) (tab := [(56, fun ρ H => Y56 [ρ 0, ρ 1, ρ 5] H)])
    (C_script_words_items_ok hw) PP_mixed B_script_words_items_ok ⟨h56, trivial⟩ (by kernel_rfl)
theorem s_script_words_items_p56 {w0 : World} (hw : Base w0) {K : AV → AH → Prop} : Pt w0 PP F_script_words_items F_script_words_items.ntmps B_script_words_items K 56 (fun ρ H => LoopP (r_script_words_items_p56 K) [ρ 0, ρ 1, ρ 5] H) :=
  Pt.loop (st := fun ρ => [ρ 0, ρ 1, ρ 5]) fun Y56 h56 => Pt.walk_eq (p := [false, false, false, true, true]) (ct := C_script_words_items) (tab := [(56, fun ρ H => Y56 [ρ 0, ρ 1, ρ 5] H), (907, fun ρ H => r_script_words_items_p907 K Y56 (ρ 0) (ρ 1) (ρ 5) (ρ 6) H)])
    (C_script_words_items_ok hw) PP_mixed B_script_words_items_ok ⟨h56, s_script_words_items_p907 hw h56, trivial⟩ (by kernel_rfl)
theorem r_script_words_items_ok {w0 : World} (hw : Base w0) : FnOk w0 PP 65 (r_script_words_items) := ⟨⟨F_script_words_items, by kernel_rfl, by kernel_rfl, by kernel_rfl⟩, sound_of_pt (fn := F_script_words_items) (body := B_script_words_items) (n := 2) (by kernel_rfl) (by kernel_rfl)
  (fun args H K h => by unfold r_script_words_items at h; split at h; rfl; exact h.elim) fun K => Pt.walk_eq (p := []) (ct := C_script_words_items) (tab := [(56, fun ρ H => LoopP (r_script_words_items_p56 K) [ρ 0, ρ 1, ρ 5] H)])
    (C_script_words_items_ok hw) PP_mixed B_script_words_items_ok ⟨s_script_words_items_p56 hw, trivial⟩ (by kernel_rfl)⟩

abbrev k_script_words_field : Nat := 37
-- (*hostler/script.words).field
noncomputable abbrev F_script_words_field : Func := Go.Proofs.Tryz.f37
noncomputable def B_script_words_field : Code := (F_script_words_field.body).getD .skip
def C_script_words_field : Table := tableOf [(34, r_script_words_number), (64, r_script_words_next), (65, r_script_words_items)]
theorem C_script_words_field_ok {w0 : World} (hw : Base w0) : (C_script_words_field).Ok w0 PP := TableOk.ok (w0 := w0) (P := PP) (l := [(34, r_script_words_number), (64, r_script_words_next), (65, r_script_words_items)]) ⟨(r_script_words_number_ok hw).call, (r_script_words_next_ok hw).call, (r_script_words_items_ok hw).call, trivial⟩
theorem B_script_words_field_ok : codeOk F_script_words_field.ntmps B_script_words_field = true := by kernel_rfl
def r_script_words_field : AFn := fun args H K => match args with
| [t0, t1, t2] =>
  bnd (abin PP .eql 21 t2 (.int .i32 70)) fun t8u1 =>
  branch t8u1 (
  r_script_words_next [t0] H fun t11u2 H_3 =>
  bnd (nilck t1) fun t12u4 =>
  bnd (aoff 1 t12u4) fun t13u5 =>
  bnd (ast 1 t13u5 t11u2 H_3) fun H_6 =>
  K (.tup []) H_6) (
  bnd (abin PP .eql 21 t2 (.int .i32 69)) fun t15u7 =>
  branch t15u7 (
  r_script_words_next [t0] H fun t18u8 H_9 =>
  bnd (nilck t1) fun t19u10 =>
  bnd (aoff 2 t19u10) fun t20u11 =>
  bnd (ast 1 t20u11 t18u8 H_9) fun H_12 =>
  K (.tup []) H_12) (
  bnd (abin PP .eql 21 t2 (.int .i32 84)) fun t22u13 =>
  branch t22u13 (
  r_script_words_next [t0] H fun t25u14 H_15 =>
  bnd (nilck t1) fun t26u16 =>
  bnd (aoff 3 t26u16) fun t27u17 =>
  bnd (ast 1 t27u17 t25u14 H_15) fun H_18 =>
  K (.tup []) H_18) (
  bnd (abin PP .eql 21 t2 (.int .i32 78)) fun t29u19 =>
  branch t29u19 (
  r_script_words_number [t0] H fun t32u20 H_21 =>
  bnd (nilck t1) fun t33u22 =>
  bnd (aoff 4 t33u22) fun t34u23 =>
  bnd (ast 1 t34u23 t32u20 H_21) fun H_24 =>
  K (.tup []) H_24) (
  bnd (abin PP .eql 21 t2 (.int .i32 83)) fun t36u25 =>
  branch t36u25 (
  r_script_words_number [t0] H fun t39u26 H_27 =>
  bnd (nilck t1) fun t40u28 =>
  bnd (aoff 5 t40u28) fun t41u29 =>
  bnd (ast 1 t41u29 t39u26 H_27) fun H_30 =>
  K (.tup []) H_30) (
  bnd (abin PP .eql 21 t2 (.int .i32 85)) fun t43u31 =>
  branch t43u31 (
  r_script_words_number [t0] H fun t46u32 H_33 =>
  bnd (nilck t1) fun t47u34 =>
  bnd (aoff 6 t47u34) fun t48u35 =>
  bnd (ast 1 t48u35 t46u32 H_33) fun H_36 =>
  K (.tup []) H_36) (
  bnd (abin PP .eql 21 t2 (.int .i32 80)) fun t50u37 =>
  branch t50u37 (
  r_script_words_number [t0] H fun t53u38 H_39 =>
  bnd (nilck t1) fun t54u40 =>
  bnd (aoff 7 t54u40) fun t55u41 =>
  bnd (ast 1 t55u41 t53u38 H_39) fun H_42 =>
  K (.tup []) H_42) (
  bnd (abin PP .eql 21 t2 (.int .i32 73)) fun t57u43 =>
  branch t57u43 (
  bnd (nilck t1) fun t61u44 =>
  bnd (aoff 0 t61u44) fun t62u45 =>
  bnd (ld1 t62u45 H) fun t63u46 =>
  bnd (abin PP .eql 3 t63u46 (.int .i64 1)) fun t64u47 =>
  r_script_words_items [t0, t64u47] H fun t65u48 H_49 =>
  bnd (nilck t1) fun t66u50 =>
  bnd (aoff 8 t66u50) fun t67u51 =>
  bnd (ast 1 t67u51 t65u48 H_49) fun H_52 =>
  K (.tup []) H_52) (
  K (.tup []) H))))))))
| _ => False
theorem r_script_words_field_ok {w0 : World} (hw : Base w0) : FnOk w0 PP 37 (r_script_words_field) := ⟨⟨F_script_words_field, by kernel_rfl, by kernel_rfl, by kernel_rfl⟩, sound_of_pt (fn := F_script_words_field) (body := B_script_words_field) (n := 3) (by kernel_rfl) (by kernel_rfl)
  (fun args H K h => by unfold r_script_words_field at h; split at h; rfl; exact h.elim) fun K => Pt.walk_eq (p := []) (ct := C_script_words_field) (tab := [])
    (C_script_words_field_ok hw) PP_mixed B_script_words_field_ok trivial (by kernel_rfl)⟩

abbrev k_script_step : Nat := 19
-- hostler/script.step
noncomputable abbrev F_script_step : Func := Go.Proofs.Tryz.f19
noncomputable def B_script_step : Code := (F_script_step.body).getD .skip
def C_script_step : Table := tableOf [(34, r_script_words_number), (35, r_script_kinds), (36, r_message_Fields), (37, r_script_words_field), (38, r_message_Check)]
theorem C_script_step_ok {w0 : World} (hw : Base w0) : (C_script_step).Ok w0 PP := TableOk.ok (w0 := w0) (P := PP) (l := [(34, r_script_words_number), (35, r_script_kinds), (36, r_message_Fields), (37, r_script_words_field), (38, r_message_Check)]) ⟨(r_script_words_number_ok hw).call, (r_script_kinds_ok hw).call, (r_message_Fields_ok hw).call, (r_script_words_field_ok hw).call, (r_message_Check_ok hw).call, trivial⟩
theorem B_script_step_ok : codeOk F_script_step.ntmps B_script_step = true := by kernel_rfl
def r_script_step_p15099 (K : AV → AH → Prop) (t2 : AV) (t4 : AV) (t7 : AV) (H : AH) : Prop :=
  bnd (ldN 12 t7 H) fun t72u94 =>
  bnd (nilck t4) fun t74u95 =>
  bnd (aoff 1 t74u95) fun t75u96 =>
  bnd (ld1 t75u96 H) fun t76u97 =>
  bnd (aun .not t76u97) fun t77u98 =>
  aguard (gwant true t77u98) (fun k_100 =>
  k_100 t4 H) H fun t79u99 _ =>
  aguard (gwant true t77u98) (fun k_102 =>
  bnd (nilck t79u99) fun t80u103 =>
  k_102 t80u103 H) H fun t80u101 _ =>
  aguard (gwant true t77u98) (fun k_105 =>
  bnd (aoff 0 t80u101) fun t81u106 =>
  k_105 t81u106 H) H fun t81u104 _ =>
  aguard (gwant true t77u98) (fun k_108 =>
  bnd (ld1 t81u104 H) fun t82u109 =>
  k_108 t82u109 H) H fun t82u107 _ =>
  aguard (gwant true t77u98) (fun k_111 =>
  bnd (lenSl t82u107) fun t83u112 =>
  k_111 t83u112 H) H fun t83u110 _ =>
  aguard (gwant true t77u98) (fun k_114 =>
  bnd (abin PP .eql 3 t83u110 (.int .i64 0)) fun t84u115 =>
  k_114 t84u115 H) H fun t84u113 _ =>
  bnd (pickV t77u98 t84u113 (.bool false)) fun t85u116 =>
  bnd (ast 12 t2 t72u94 H) fun H_117 =>
(wantE (gwant true t77u98) ((ld1 t81u104 H_117) = some t82u107)) ∧ (
(wantE (gwant true t77u98) ((lenSl t82u107) = some t83u110)) ∧ (
  bnd (ldN 12 t2 H_117) fun v_118 =>
  K (.tup [v_118, t85u116]) H_117))
def r_script_step_p2036 (K : AV → AH → Prop) (Y2036 : List AV → AH → Prop) (s : List AV) (H : AH) : Prop := match s with
| [t2, t4, t10, t102] =>
  bnd (nextStr t102 H) fun r_140 =>
  bnd (aextract r_140.1 0) fun t104u141 =>
  branch t104u141 (
  bnd (aextract r_140.1 2) fun t105u142 =>
  bnd (aoff 1 t10) fun t107u143 =>
  r_script_words_field [t4, t107u143, t105u142] r_140.2 fun t109u144 H_145 =>
  Y2036 [t2, t4, t10, t102] H_145) (
  bnd (ldN 12 t10 r_140.2) fun t110u146 =>
  bnd (nilck t4) fun t112u147 =>
  bnd (aoff 1 t112u147) fun t113u148 =>
  bnd (ld1 t113u148 r_140.2) fun t114u149 =>
  bnd (aun .not t114u149) fun t115u150 =>
  aguard (gwant true t115u150) (fun k_152 =>
  k_152 t4 r_140.2) r_140.2 fun t117u151 _ =>
  aguard (gwant true t115u150) (fun k_154 =>
  bnd (nilck t117u151) fun t118u155 =>
  k_154 t118u155 r_140.2) r_140.2 fun t118u153 _ =>
  aguard (gwant true t115u150) (fun k_157 =>
  bnd (aoff 0 t118u153) fun t119u158 =>
  k_157 t119u158 r_140.2) r_140.2 fun t119u156 _ =>
  aguard (gwant true t115u150) (fun k_160 =>
  bnd (ld1 t119u156 r_140.2) fun t120u161 =>
  k_160 t120u161 r_140.2) r_140.2 fun t120u159 _ =>
  aguard (gwant true t115u150) (fun k_163 =>
  bnd (lenSl t120u159) fun t121u164 =>
  k_163 t121u164 r_140.2) r_140.2 fun t121u162 _ =>
  aguard (gwant true t115u150) (fun k_166 =>
  bnd (abin PP .eql 3 t121u162 (.int .i64 0)) fun t122u167 =>
  k_166 t122u167 r_140.2) r_140.2 fun t122u165 _ =>
  bnd (pickV t115u150 t122u165 (.bool false)) fun t123u168 =>
  aguard (gwant true t123u168) (fun k_170 =>
  bnd (aoff 1 t10) fun t125u171 =>
  k_170 t125u171 r_140.2) r_140.2 fun t125u169 _ =>
  aguard (gwant true t123u168) (fun k_173 =>
  bnd (ldN 9 t125u169 r_140.2) fun t126u174 =>
  k_173 t126u174 r_140.2) r_140.2 fun t126u172 _ =>
  aguard (gwant true t123u168) (fun k_177 =>
  r_message_Check [t126u172] r_140.2 fun t127u178 H_179 =>
  k_177 t127u178 H_179) r_140.2 fun t127u175 H_176 =>
((ldN 12 t10 H_176) = some t110u146) ∧ (
  aguard (gwant true t123u168) (fun k_181 =>
  bnd (abin PP .eql 25 t127u175 (.int .i64 0)) fun t128u182 =>
  k_181 t128u182 H_176) H_176 fun t128u180 _ =>
  bnd (pickV t123u168 t128u180 (.bool false)) fun t129u183 =>
  bnd (ast 12 t2 t110u146 H_176) fun H_184 =>
  bnd (ldN 12 t2 H_184) fun v_185 =>
  K (.tup [v_185, t129u183]) H_184))
| _ => False
def r_script_step : AFn := fun args H K => match args with
| [t0] =>
(fun (t2u1 : AV) (H_2 : AH) =>
  bnd (sliceSl 1 t0 (some (.int .i64 1)) none none) fun t14u3 =>
  bnd (astruct [(0, 1), (1, 1)] [.nils, .bool false] [(0, t14u3)]) fun t15u4 =>
  bnd (boxCells t15u4) fun z_5 =>
(fun (t16u6 : AV) (H_7 : AH) =>
  bnd (idxA 1 t0 (.int .i64 0)) fun t18u8 =>
  bnd (ld1 t18u8 H_7) fun t19u9 =>
  bnd (abin PP .eql 9 t19u9 (.str [116, 105, 99, 107])) fun t21u10 =>
  branch t21u10 (
  r_script_words_number [t16u6] H_7 fun t23u11 H_12 =>
  bnd (astruct [(0, 1), (1, 9), (10, 1), (11, 1)] [.int .i64 0, .int .i64 0, .str [], .str [], .str [], .int .i64 0, .int .i64 0, .int .i64 0, .int .i64 0, .nils, .int .i64 0, .int .i64 0] [(0, (.int .i64 2)), (2, t23u11)]) fun t24u13 =>
(fun (t5u14 : AV) (H_15 : AH) =>
  bnd (ast 12 t5u14 t24u13 H_15) fun H_16 =>
  bnd (ldN 12 t5u14 H_16) fun t25u17 =>
  bnd (nilck t16u6) fun t27u18 =>
  bnd (aoff 1 t27u18) fun t28u19 =>
  bnd (ld1 t28u19 H_16) fun t29u20 =>
  bnd (aun .not t29u20) fun t30u21 =>
  aguard (gwant true t30u21) (fun k_23 =>
  k_23 t16u6 H_16) H_16 fun t32u22 _ =>
  aguard (gwant true t30u21) (fun k_25 =>
  bnd (nilck t32u22) fun t33u26 =>
  k_25 t33u26 H_16) H_16 fun t33u24 _ =>
  aguard (gwant true t30u21) (fun k_28 =>
  bnd (aoff 0 t33u24) fun t34u29 =>
  k_28 t34u29 H_16) H_16 fun t34u27 _ =>
  aguard (gwant true t30u21) (fun k_31 =>
  bnd (ld1 t34u27 H_16) fun t35u32 =>
  k_31 t35u32 H_16) H_16 fun t35u30 _ =>
  aguard (gwant true t30u21) (fun k_34 =>
  bnd (lenSl t35u30) fun t36u35 =>
  k_34 t36u35 H_16) H_16 fun t36u33 _ =>
  aguard (gwant true t30u21) (fun k_37 =>
  bnd (abin PP .eql 3 t36u33 (.int .i64 0)) fun t37u38 =>
  k_37 t37u38 H_16) H_16 fun t37u36 _ =>
  bnd (pickV t30u21 t37u36 (.bool false)) fun t38u39 =>
  bnd (ast 12 t2u1 t25u17 H_16) fun H_40 =>
(wantE (gwant true t30u21) ((ld1 t34u27 H_40) = some t35u30)) ∧ (
(wantE (gwant true t30u21) ((lenSl t35u30) = some t36u33)) ∧ (
  bnd (ldN 12 t2u1 H_40) fun v_41 =>
  K (.tup [v_41, t38u39]) H_40))) (.ptr H_12.next 0) (H_12.add (.cells [.int .i64 0, .int .i64 0, .str [], .str [], .str [], .int .i64 0, .int .i64 0, .int .i64 0, .int .i64 0, .nils, .int .i64 0, .int .i64 0]))) (
  bnd (abin PP .eql 9 t19u9 (.str [102, 117, 115, 101])) fun t40u44 =>
  branch t40u44 (
  r_script_words_number [t16u6] H_7 fun t42u45 H_46 =>
  bnd (astruct [(0, 1), (1, 9), (10, 1), (11, 1)] [.int .i64 0, .int .i64 0, .str [], .str [], .str [], .int .i64 0, .int .i64 0, .int .i64 0, .int .i64 0, .nils, .int .i64 0, .int .i64 0] [(0, (.int .i64 3)), (2, t42u45)]) fun t43u47 =>
(fun (t6u48 : AV) (H_49 : AH) =>
  bnd (ast 12 t6u48 t43u47 H_49) fun H_50 =>
  bnd (ldN 12 t6u48 H_50) fun t44u51 =>
  bnd (nilck t16u6) fun t46u52 =>
  bnd (aoff 1 t46u52) fun t47u53 =>
  bnd (ld1 t47u53 H_50) fun t48u54 =>
  bnd (aun .not t48u54) fun t49u55 =>
  aguard (gwant true t49u55) (fun k_57 =>
  k_57 t16u6 H_50) H_50 fun t51u56 _ =>
  aguard (gwant true t49u55) (fun k_59 =>
  bnd (nilck t51u56) fun t52u60 =>
  k_59 t52u60 H_50) H_50 fun t52u58 _ =>
  aguard (gwant true t49u55) (fun k_62 =>
  bnd (aoff 0 t52u58) fun t53u63 =>
  k_62 t53u63 H_50) H_50 fun t53u61 _ =>
  aguard (gwant true t49u55) (fun k_65 =>
  bnd (ld1 t53u61 H_50) fun t54u66 =>
  k_65 t54u66 H_50) H_50 fun t54u64 _ =>
  aguard (gwant true t49u55) (fun k_68 =>
  bnd (lenSl t54u64) fun t55u69 =>
  k_68 t55u69 H_50) H_50 fun t55u67 _ =>
  aguard (gwant true t49u55) (fun k_71 =>
  bnd (abin PP .eql 3 t55u67 (.int .i64 0)) fun t56u72 =>
  k_71 t56u72 H_50) H_50 fun t56u70 _ =>
  bnd (pickV t49u55 t56u70 (.bool false)) fun t57u73 =>
  bnd (ast 12 t2u1 t44u51 H_50) fun H_74 =>
(wantE (gwant true t49u55) ((ld1 t53u61 H_74) = some t54u64)) ∧ (
(wantE (gwant true t49u55) ((lenSl t54u64) = some t55u67)) ∧ (
  bnd (ldN 12 t2u1 H_74) fun v_75 =>
  K (.tup [v_75, t57u73]) H_74))) (.ptr H_46.next 0) (H_46.add (.cells [.int .i64 0, .int .i64 0, .str [], .str [], .str [], .int .i64 0, .int .i64 0, .int .i64 0, .int .i64 0, .nils, .int .i64 0, .int .i64 0]))) (
  bnd (abin PP .eql 9 t19u9 (.str [99, 114, 97, 115, 104])) fun t59u78 =>
  branch t59u78 (
  r_script_words_number [t16u6] H_7 fun t61u79 H_80 =>
  bnd (astruct [(0, 1), (1, 9), (10, 1), (11, 1)] [.int .i64 0, .int .i64 0, .str [], .str [], .str [], .int .i64 0, .int .i64 0, .int .i64 0, .int .i64 0, .nils, .int .i64 0, .int .i64 0] [(0, (.int .i64 4)), (2, t61u79), (3, (.int .i64 (-1)))]) fun t62u81 =>
(fun (t7u82 : AV) (H_83 : AH) =>
  bnd (ast 12 t7u82 t62u81 H_83) fun H_84 =>
  bnd (nilck t16u6) fun t64u85 =>
  bnd (aoff 0 t64u85) fun t65u86 =>
  bnd (ld1 t65u86 H_84) fun t66u87 =>
  bnd (lenSl t66u87) fun t67u88 =>
  bnd (abin PP .gtr 3 t67u88 (.int .i64 0)) fun t68u89 =>
  branch t68u89 (
  r_script_words_number [t16u6] H_84 fun t70u90 H_91 =>
  bnd (aoff 11 t7u82) fun t71u92 =>
  bnd (ast 1 t71u92 t70u90 H_91) fun H_93 =>
  r_script_step_p15099 K t2u1 t16u6 t7u82 H_93) (
  r_script_step_p15099 K t2u1 t16u6 t7u82 H_84)) (.ptr H_80.next 0) (H_80.add (.cells [.int .i64 0, .int .i64 0, .str [], .str [], .str [], .int .i64 0, .int .i64 0, .int .i64 0, .int .i64 0, .nils, .int .i64 0, .int .i64 0]))) (
  bnd (idxA 1 t0 (.int .i64 0)) fun t89u121 =>
  bnd (ld1 t89u121 H_7) fun t90u122 =>
  r_script_kinds [] H_7 fun t87u123 H_124 =>
((ld1 t89u121 H_124) = some t90u122) ∧ (
  bnd (look (.one .str) (.int .i64 0) t87u123 t90u122 true H_124) fun t91u125 =>
  bnd (aextract t91u125 0) fun t92u126 =>
  bnd (aextract t91u125 1) fun t93u127 =>
  bnd (aun .not t93u127) fun t95u128 =>
  branch t95u128 (
  bnd (astruct [(0, 1), (1, 9), (10, 1), (11, 1)] [.int .i64 0, .int .i64 0, .str [], .str [], .str [], .int .i64 0, .int .i64 0, .int .i64 0, .int .i64 0, .nils, .int .i64 0, .int .i64 0] []) fun t96u129 =>
  bnd (ast 12 t2u1 t96u129 H_124) fun H_130 =>
  bnd (ldN 12 t2u1 H_130) fun v_131 =>
  K (.tup [v_131, (.bool false)]) H_130) (
  bnd (astruct [(0, 1), (1, 1), (2, 1), (3, 1), (4, 1), (5, 1), (6, 1), (7, 1), (8, 1)] [.int .i64 0, .str [], .str [], .str [], .int .i64 0, .int .i64 0, .int .i64 0, .int .i64 0, .nils] [(0, t92u126)]) fun t98u132 =>
  bnd (astruct [(0, 1), (1, 9), (10, 1), (11, 1)] [.int .i64 0, .int .i64 0, .str [], .str [], .str [], .int .i64 0, .int .i64 0, .int .i64 0, .int .i64 0, .nils, .int .i64 0, .int .i64 0] [(0, (.int .i64 1)), (1, t98u132)]) fun t99u133 =>
(fun (t10u134 : AV) (H_135 : AH) =>
  bnd (ast 12 t10u134 t99u133 H_135) fun H_136 =>
  r_message_Fields [t92u126] H_136 fun t101u137 H_138 =>
  bnd (rangeStr t101u137 H_138) fun r_139 =>
  LoopP (r_script_step_p2036 K) [t2u1, t16u6, t10u134, r_139.1] r_139.2) (.ptr H_124.next 0) (H_124.add (.cells [.int .i64 0, .int .i64 0, .str [], .str [], .str [], .int .i64 0, .int .i64 0, .int .i64 0, .int .i64 0, .nils, .int .i64 0, .int .i64 0])))))))) (.ptr H_2.next 0) (H_2.add (.cells z_5))) (.ptr H.next 0) (H.add (.cells [.int .i64 0, .int .i64 0, .str [], .str [], .str [], .int .i64 0, .int .i64 0, .int .i64 0, .int .i64 0, .nils, .int .i64 0, .int .i64 0]))
| _ => False
theorem s_script_step_p15099 {w0 : World} (hw : Base w0) {K : AV → AH → Prop} : Pt w0 PP F_script_step F_script_step.ntmps B_script_step K 15099 (fun ρ H => r_script_step_p15099 K (ρ 2) (ρ 4) (ρ 7) H) :=
  Pt.walk_eq (p := [true, true, false, true, true, true, true, true, false, true, false, true, true]) (ct := C_script_step) (tab := [])
    (C_script_step_ok hw) PP_mixed B_script_step_ok trivial (by kernel_rfl)
theorem s_script_step_p2036 {w0 : World} (hw : Base w0) {K : AV → AH → Prop} : Pt w0 PP F_script_step F_script_step.ntmps B_script_step K 2036 (fun ρ H => LoopP (r_script_step_p2036 K) [ρ 2, ρ 4, ρ 10, ρ 102] H) :=
  Pt.loop (st := fun ρ => [ρ 2, ρ 4, ρ 10, ρ 102]) fun Y2036 h2036 => Pt.walk_eq (p := [false, false, true, false, true, true, true, true, true, true]) (ct := C_script_step) (tab := [(2036, fun ρ H => Y2036 [ρ 2, ρ 4, ρ 10, ρ 102] H)])
    (C_script_step_ok hw) PP_mixed B_script_step_ok ⟨h2036, trivial⟩ (by kernel_rfl)
theorem r_script_step_ok {w0 : World} (hw : Base w0) : FnOk w0 PP 19 (r_script_step) := ⟨⟨F_script_step, by kernel_rfl, by kernel_rfl, by kernel_rfl⟩, sound_of_pt (fn := F_script_step) (body := B_script_step) (n := 1) (by kernel_rfl) (by kernel_rfl)
  (fun args H K h => by unfold r_script_step at h; split at h; rfl; exact h.elim) fun K => Pt.walk_eq (p := []) (ct := C_script_step) (tab := [(2036, fun ρ H => LoopP (r_script_step_p2036 K) [ρ 2, ρ 4, ρ 10, ρ 102] H), (15099, fun ρ H => r_script_step_p15099 K (ρ 2) (ρ 4) (ρ 7) H)])
    (C_script_step_ok hw) PP_mixed B_script_step_ok ⟨s_script_step_p2036 hw, s_script_step_p15099 hw, trivial⟩ (by kernel_rfl)⟩

abbrev k_script_Parse_1 : Nat := 18
-- hostler/script.Parse_1
noncomputable abbrev F_script_Parse_1 : Func := Go.Proofs.Tryz.f18
noncomputable def B_script_Parse_1 : Code := (F_script_Parse_1.body).getD .skip
def C_script_Parse_1 : Table := tableOf []
theorem C_script_Parse_1uok {w0 : World} (hw : Base w0) : (C_script_Parse_1).Ok w0 PP := TableOk.ok (w0 := w0) (P := PP) (l := []) trivial
theorem B_script_Parse_1uok : codeOk F_script_Parse_1.ntmps B_script_Parse_1 = true := by kernel_rfl
def r_script_Parse_1 : AFn := fun args H K => match args with
| [t0] =>
  bnd (abin PP .eql 9 t0 (.str [])) fun t4u1 =>
  K t4u1 H
| _ => False
theorem r_script_Parse_1uok {w0 : World} (hw : Base w0) : FnOk w0 PP 18 (r_script_Parse_1) := ⟨⟨F_script_Parse_1, by kernel_rfl, by kernel_rfl, by kernel_rfl⟩, sound_of_pt (fn := F_script_Parse_1) (body := B_script_Parse_1) (n := 1) (by kernel_rfl) (by kernel_rfl)
  (fun args H K h => by unfold r_script_Parse_1 at h; split at h; rfl; exact h.elim) fun K => Pt.walk_eq (p := []) (ct := C_script_Parse_1) (tab := [])
    (C_script_Parse_1uok hw) PP_mixed B_script_Parse_1uok trivial (by kernel_rfl)⟩

abbrev k_script_Parse : Nat := 6
-- hostler/script.Parse
noncomputable abbrev F_script_Parse : Func := Go.Proofs.Tryz.f6
noncomputable def B_script_Parse : Code := (F_script_Parse.body).getD .skip
def C_script_Parse : Table := tableOf [(16, (frz r_strings_Split)), (17, (frz (r_slices_DeleteFunc_string_string (tabL [(18, r_script_Parse_1)])))), (19, r_script_step)]
theorem C_script_Parse_ok {w0 : World} (hw : Base w0) : (C_script_Parse).Ok w0 PP := TableOk.ok (w0 := w0) (P := PP) (l := [(16, (frz r_strings_Split)), (17, (frz (r_slices_DeleteFunc_string_string (tabL [(18, r_script_Parse_1)])))), (19, r_script_step)]) ⟨(r_strings_Split_ok hw).frz.call, ((r_slices_DeleteFunc_string_string_ok hw (TableOk.tab (w0 := w0) (P := PP) (l := [(18, r_script_Parse_1)]) ⟨(r_script_Parse_1uok hw).call, trivial⟩))).frz.call, (r_script_step_ok hw).call, trivial⟩
theorem B_script_Parse_ok : codeOk F_script_Parse.ntmps B_script_Parse = true := by kernel_rfl
def r_script_Parse_p54 (K : AV → AH → Prop) (Y54 : List AV → AH → Prop) (s : List AV) (H : AH) : Prop := match s with
| [t4, t5] =>
  bnd (lenSl t4) fun t12u3 =>
  bnd (abin PP .eql 3 t12u3 (.int .i64 0)) fun t13u4 =>
  branch t13u4 (
  K (.tup [t5, (.int .i64 0)]) H) (
  bnd (idxA 1 t4 (.int .i64 0)) fun t16u5 =>
  bnd (ld1 t16u5 H) fun t17u6 =>
(frz r_strings_Split) [t17u6, (.str [32])] H fun t18u7 H_8 =>
(frz (r_slices_DeleteFunc_string_string (tabL [(18, r_script_Parse_1)]))) [t18u7, (.fn (.func 18) [] [])] H_8 fun t19u9 H_10 =>
  bnd (sliceSl 1 t4 (some (.int .i64 1)) none none) fun t21u11 =>
  bnd (lenSl t19u9) fun t23u12 =>
  bnd (abin PP .eql 3 t23u12 (.int .i64 0)) fun t24u13 =>
  branch t24u13 (
  Y54 [t21u11, t5] H_10) (
  r_script_step [t19u9] H_10 fun t27u14 H_15 =>
  bnd (aextract t27u14 0) fun t28u16 =>
  bnd (aextract t27u14 1) fun t29u17 =>
(fun (t7u18 : AV) (H_19 : AH) =>
  bnd (ast 12 t7u18 t28u16 H_19) fun H_20 =>
  bnd (aun .not t29u17) fun t31u21 =>
  branch t31u21 (
  K (.tup [(.nils), (.int .i64 2)]) H_20) (
  bnd (ldN 12 t7u18 H_20) fun t33u22 =>
  bnd (buildSl 12 1 [(0, t33u22)]) fun t34u23 =>
  appK 12 136 t5 t34u23 H_20 fun t35u24 H_25 =>
  Y54 [t21u11, t35u24] H_25)) (.ptr H_15.next 0) (H_15.add (.cells [.int .i64 0, .int .i64 0, .str [], .str [], .str [], .int .i64 0, .int .i64 0, .int .i64 0, .int .i64 0, .nils, .int .i64 0, .int .i64 0]))))
| _ => False
def r_script_Parse : AFn := fun args H K => match args with
| [t0] =>
(frz r_strings_Split) [t0, (.str [10])] H fun t10u1 H_2 =>
  LoopP (r_script_Parse_p54 K) [t10u1, (.nils)] H_2
| _ => False
theorem s_script_Parse_p54 {w0 : World} (hw : Base w0) {K : AV → AH → Prop} : Pt w0 PP F_script_Parse F_script_Parse.ntmps B_script_Parse K 54 (fun ρ H => LoopP (r_script_Parse_p54 K) [ρ 4, ρ 5] H) :=
  Pt.loop (st := fun ρ => [ρ 4, ρ 5]) fun Y54 h54 => Pt.walk_eq (p := [false, true, true, false, true]) (ct := C_script_Parse) (tab := [(54, fun ρ H => Y54 [ρ 4, ρ 5] H)])
    (C_script_Parse_ok hw) PP_mixed B_script_Parse_ok ⟨h54, trivial⟩ (by kernel_rfl)
theorem r_script_Parse_ok {w0 : World} (hw : Base w0) : FnOk w0 PP 6 (r_script_Parse) := ⟨⟨F_script_Parse, by kernel_rfl, by kernel_rfl, by kernel_rfl⟩, sound_of_pt (fn := F_script_Parse) (body := B_script_Parse) (n := 1) (by kernel_rfl) (by kernel_rfl)
  (fun args H K h => by unfold r_script_Parse at h; split at h; rfl; exact h.elim) fun K => Pt.walk_eq (p := []) (ct := C_script_Parse) (tab := [(54, fun ρ H => LoopP (r_script_Parse_p54 K) [ρ 4, ρ 5] H)])
    (C_script_Parse_ok hw) PP_mixed B_script_Parse_ok ⟨s_script_Parse_p54 hw, trivial⟩ (by kernel_rfl)⟩

abbrev k_hostlerlaw21uwakes : Nat := 12
-- hostler/hostlerlaw21.wakes
noncomputable abbrev F_hostlerlaw21uwakes : Func := Go.Proofs.Tryz.f12
noncomputable def B_hostlerlaw21uwakes : Code := (F_hostlerlaw21uwakes.body).getD .skip
def C_hostlerlaw21uwakes : Table := tableOf [(6, r_script_Parse), (26, r_hostlerref01uSame)]
theorem C_hostlerlaw21uwakes_ok {w0 : World} (hw : Base w0) : (C_hostlerlaw21uwakes).Ok w0 PP := TableOk.ok (w0 := w0) (P := PP) (l := [(6, r_script_Parse), (26, r_hostlerref01uSame)]) ⟨(r_script_Parse_ok hw).call, (r_hostlerref01uSame_ok hw).call, trivial⟩
theorem B_hostlerlaw21uwakes_ok : codeOk F_hostlerlaw21uwakes.ntmps B_hostlerlaw21uwakes = true := by kernel_rfl
def r_hostlerlaw21uwakes : AFn := fun args H K => match args with
| [] =>
  r_script_Parse [(.str [107, 105, 108, 108, 32, 97, 32, 98])] H fun t4u1 H_2 =>
  bnd (aextract t4u1 0) fun t5u3 =>
  bnd (aextract t4u1 1) fun t6u4 =>
  bnd (abin PP .eql 25 t6u4 (.int .i64 0)) fun t8u5 =>
  aguard (gwant true t8u5) (fun k_8 =>
  k_8 t5u3 H_2) H_2 fun t10u6 H_7 =>
  aguard (gwant true t8u5) (fun k_11 =>
  bnd (lenSl t10u6) fun t11u12 =>
  k_11 t11u12 H_7) H_7 fun t11u9 H_10 =>
  aguard (gwant true t8u5) (fun k_15 =>
  bnd (abin PP .eql 3 t11u9 (.int .i64 1)) fun t12u16 =>
  k_15 t12u16 H_10) H_10 fun t12u13 H_14 =>
  bnd (pickV t8u5 t12u13 (.bool false)) fun t13u17 =>
  aguard (gwant true t13u17) (fun k_20 =>
  k_20 t5u3 H_14) H_14 fun t15u18 H_19 =>
  aguard (gwant true t13u17) (fun k_23 =>
  bnd (idxA 12 t15u18 (.int .i64 0)) fun t16u24 =>
  k_23 t16u24 H_19) H_19 fun t16u21 H_22 =>
  aguard (gwant true t13u17) (fun k_27 =>
  bnd (aoff 0 t16u21) fun t17u28 =>
  k_27 t17u28 H_22) H_22 fun t17u25 H_26 =>
  aguard (gwant true t13u17) (fun k_31 =>
  bnd (ld1 t17u25 H_26) fun t18u32 =>
  k_31 t18u32 H_26) H_26 fun t18u29 H_30 =>
  aguard (gwant true t13u17) (fun k_35 =>
  bnd (abin PP .eql 3 t18u29 (.int .i64 1)) fun t19u36 =>
  k_35 t19u36 H_30) H_30 fun t19u33 H_34 =>
  bnd (pickV t13u17 t19u33 (.bool false)) fun t20u37 =>
  aguard (gwant true t20u37) (fun k_40 =>
  k_40 t5u3 H_34) H_34 fun t22u38 H_39 =>
  aguard (gwant true t20u37) (fun k_43 =>
  bnd (idxA 12 t22u38 (.int .i64 0)) fun t23u44 =>
  k_43 t23u44 H_39) H_39 fun t23u41 H_42 =>
  aguard (gwant true t20u37) (fun k_47 =>
  bnd (aoff 1 t23u41) fun t24u48 =>
  k_47 t24u48 H_42) H_42 fun t24u45 H_46 =>
  aguard (gwant true t20u37) (fun k_51 =>
  bnd (ldN 9 t24u45 H_46) fun t25u52 =>
  k_51 t25u52 H_46) H_46 fun t25u49 H_50 =>
  aguard (gwant true t20u37) (fun k_55 =>
  bnd (astruct [(0, 1), (1, 1), (2, 1), (3, 1), (4, 1), (5, 1), (6, 1), (7, 1), (8, 1)] [.int .i64 0, .str [], .str [], .str [], .int .i64 0, .int .i64 0, .int .i64 0, .int .i64 0, .nils] [(0, (.int .i64 2)), (1, (.str [97])), (3, (.str [98]))]) fun t26u56 =>
  k_55 t26u56 H_50) H_50 fun t26u53 H_54 =>
  aguard (gwant true t20u37) (fun k_59 =>
  r_hostlerref01uSame [t25u49, t26u53] H_54 fun t27u60 H_61 =>
  k_59 t27u60 H_61) H_54 fun t27u57 H_58 =>
  bnd (pickV t20u37 t27u57 (.bool false)) fun t28u62 =>
  K t28u62 H_58
| _ => False
theorem r_hostlerlaw21uwakes_ok {w0 : World} (hw : Base w0) : FnOk w0 PP 12 (r_hostlerlaw21uwakes) := ⟨⟨F_hostlerlaw21uwakes, by kernel_rfl, by kernel_rfl, by kernel_rfl⟩, sound_of_pt (fn := F_hostlerlaw21uwakes) (body := B_hostlerlaw21uwakes) (n := 0) (by kernel_rfl) (by kernel_rfl)
  (fun args H K h => by unfold r_hostlerlaw21uwakes at h; split at h; rfl; exact h.elim) fun K => Pt.walk_eq (p := []) (ct := C_hostlerlaw21uwakes) (tab := [])
    (C_hostlerlaw21uwakes_ok hw) PP_mixed B_hostlerlaw21uwakes_ok trivial (by kernel_rfl)⟩
end Go.Va
end
