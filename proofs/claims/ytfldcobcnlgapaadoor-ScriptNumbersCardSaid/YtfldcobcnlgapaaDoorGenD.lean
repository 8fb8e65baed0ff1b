/- What functions of the program ask, over the plain view. -/
import Derived.Test.YtfldcobcnlgapaaDoorVaNat
import Derived.Test.YtfldcobcnlgapaaDoorVaFrz
import Derived.Test.YtfldcobcnlgapaaDoorProg
import Derived.KernelRfl
set_option linter.unusedVariables false
set_option maxRecDepth 100000
noncomputable section
namespace Go.Va
noncomputable abbrev PP : Program := Go.Proofs.Tryd.prog
def Base (w0 : World) : Prop := True
theorem PP_mixed : PP.follows .mixedOrders = true := by kernel_rfl
abbrev k_i_bytealg_CountString : Nat := 56
def r_i_bytealg_CountString : AFn := nat_count
theorem r_i_bytealg_CountString_ok {w0 : World} (hw : Base w0) : NatOk w0 PP 56 r_i_bytealg_CountString := nat_count_ok (fn := Go.Proofs.Tryd.f56) (by kernel_rfl) (by kernel_rfl) (by kernel_rfl) (by kernel_rfl) (by kernel_rfl)

abbrev k_i_bytealg_IndexByteString : Nat := 82
def r_i_bytealg_IndexByteString : AFn := nat_indexByte
theorem r_i_bytealg_IndexByteString_ok {w0 : World} (hw : Base w0) : NatOk w0 PP 82 r_i_bytealg_IndexByteString := nat_indexByte_ok (fn := Go.Proofs.Tryd.f82) (by kernel_rfl) (by kernel_rfl) (by kernel_rfl) (by kernel_rfl) (by kernel_rfl)

abbrev k_i_bytealg_IndexString : Nat := 72
def r_i_bytealg_IndexString : AFn := fun _ _ _ => False
theorem r_i_bytealg_IndexString_ok {w0 : World} (hw : Base w0) : NatOk w0 PP 72 r_i_bytealg_IndexString := ⟨fun _ _ _ h => h.elim⟩

abbrev k_i_stringslite_IndexByte : Nat := 71
-- internal/stringslite.IndexByte
noncomputable abbrev F_i_stringslite_IndexByte : Func := Go.Proofs.Tryd.f71
noncomputable def B_i_stringslite_IndexByte : Code := (F_i_stringslite_IndexByte.body).getD .skip
def C_i_stringslite_IndexByte : Table := tableOf [(82, r_i_bytealg_IndexByteString)]
theorem C_i_stringslite_IndexByte_ok {w0 : World} (hw : Base w0) : (C_i_stringslite_IndexByte).Ok w0 PP := TableOk.ok (w0 := w0) (P := PP) (l := [(82, r_i_bytealg_IndexByteString)]) ⟨(r_i_bytealg_IndexByteString_ok hw).call, trivial⟩
theorem B_i_stringslite_IndexByte_ok : codeOk F_i_stringslite_IndexByte.ntmps B_i_stringslite_IndexByte = true := by kernel_rfl
def r_i_stringslite_IndexByte : AFn := fun args H K => match args with
| [t0, t1] =>
r_i_bytealg_IndexByteString [t0, t1] H fun t7_1 H_2 =>
K t7_1 H_2
| _ => False
theorem r_i_stringslite_IndexByte_ok {w0 : World} (hw : Base w0) : FnOk w0 PP 71 (r_i_stringslite_IndexByte) := ⟨⟨F_i_stringslite_IndexByte, by kernel_rfl, by kernel_rfl, by kernel_rfl⟩, sound_of_pt (fn := F_i_stringslite_IndexByte) (body := B_i_stringslite_IndexByte) (n := 2) (by kernel_rfl) (by kernel_rfl)
  (fun args H K h => by unfold r_i_stringslite_IndexByte at h; split at h; rfl; exact h.elim) fun K => Pt.walk_eq (p := []) (ct := C_i_stringslite_IndexByte) (tab := [])
    (C_i_stringslite_IndexByte_ok hw) PP_mixed B_i_stringslite_IndexByte_ok trivial (by kernel_rfl)⟩

abbrev k_strings_IndexByte : Nat := 75
-- strings.IndexByte
noncomputable abbrev F_strings_IndexByte : Func := Go.Proofs.Tryd.f75
noncomputable def B_strings_IndexByte : Code := (F_strings_IndexByte.body).getD .skip
def C_strings_IndexByte : Table := tableOf [(71, r_i_stringslite_IndexByte)]
theorem C_strings_IndexByte_ok {w0 : World} (hw : Base w0) : (C_strings_IndexByte).Ok w0 PP := TableOk.ok (w0 := w0) (P := PP) (l := [(71, r_i_stringslite_IndexByte)]) ⟨(r_i_stringslite_IndexByte_ok hw).call, trivial⟩
theorem B_strings_IndexByte_ok : codeOk F_strings_IndexByte.ntmps B_strings_IndexByte = true := by kernel_rfl
def r_strings_IndexByte : AFn := fun args H K => match args with
| [t0, t1] =>
r_i_stringslite_IndexByte [t0, t1] H fun t7_1 H_2 =>
K t7_1 H_2
| _ => False
theorem r_strings_IndexByte_ok {w0 : World} (hw : Base w0) : FnOk w0 PP 75 (r_strings_IndexByte) := ⟨⟨F_strings_IndexByte, by kernel_rfl, by kernel_rfl, by kernel_rfl⟩, sound_of_pt (fn := F_strings_IndexByte) (body := B_strings_IndexByte) (n := 2) (by kernel_rfl) (by kernel_rfl)
  (fun args H K h => by unfold r_strings_IndexByte at h; split at h; rfl; exact h.elim) fun K => Pt.walk_eq (p := []) (ct := C_strings_IndexByte) (tab := [])
    (C_strings_IndexByte_ok hw) PP_mixed B_strings_IndexByte_ok trivial (by kernel_rfl)⟩

abbrev k_i_bytealg_Cutover : Nat := 73
def r_i_bytealg_Cutover : AFn := fun _ _ _ => False
theorem r_i_bytealg_Cutover_ok {w0 : World} (hw : Base w0) : NatOk w0 PP 73 r_i_bytealg_Cutover := ⟨fun _ _ _ h => h.elim⟩

abbrev k_i_bytealg_IndexRabinKarp_string : Nat := 74
def r_i_bytealg_IndexRabinKarp_string : AFn := fun _ _ _ => False
theorem r_i_bytealg_IndexRabinKarp_string_ok {w0 : World} (hw : Base w0) : NatOk w0 PP 74 r_i_bytealg_IndexRabinKarp_string := ⟨fun _ _ _ h => h.elim⟩

abbrev k_i_stringslite_Index : Nat := 57
-- internal/stringslite.Index
noncomputable abbrev F_i_stringslite_Index : Func := Go.Proofs.Tryd.f57
noncomputable def B_i_stringslite_Index : Code := (F_i_stringslite_Index.body).getD .skip
def C_i_stringslite_Index : Table := tableOf [(71, r_i_stringslite_IndexByte), (72, r_i_bytealg_IndexString), (73, r_i_bytealg_Cutover), (74, r_i_bytealg_IndexRabinKarp_string)]
theorem C_i_stringslite_Index_ok {w0 : World} (hw : Base w0) : (C_i_stringslite_Index).Ok w0 PP := TableOk.ok (w0 := w0) (P := PP) (l := [(71, r_i_stringslite_IndexByte), (72, r_i_bytealg_IndexString), (73, r_i_bytealg_Cutover), (74, r_i_bytealg_IndexRabinKarp_string)]) ⟨(r_i_stringslite_IndexByte_ok hw).call, (r_i_bytealg_IndexString_ok hw).call, (r_i_bytealg_Cutover_ok hw).call, (r_i_bytealg_IndexRabinKarp_string_ok hw).call, trivial⟩
theorem B_i_stringslite_Index_ok : codeOk F_i_stringslite_Index.ntmps B_i_stringslite_Index = true := by kernel_rfl
def r_i_stringslite_Index_p32709 (K : AV → AH → Prop) (Y4088 : List AV → AH → Prop) (t0 : AV) (t1 : AV) (t5 : AV) (t6 : AV) (t7 : AV) (t8 : AV) (t9 : AV) (t10 : AV) (H : AH) : Prop :=
bnd (abin PP .add 3 t8 (.int .i64 1)) fun t80_51 =>
bnd (idxStr t0 t80_51) fun t81_52 =>
bnd (abin PP .eql 5 t81_52 t7) fun t83_53 =>
aguard (gwant true t83_53) (fun k_56 =>
k_56 t0 H) H fun t85_54 H_55 =>
aguard (gwant true t83_53) (fun k_59 =>
k_59 t8 H_55) H_55 fun t86_57 H_58 =>
aguard (gwant true t83_53) (fun k_62 =>
k_62 t8 H_58) H_58 fun t87_60 H_61 =>
aguard (gwant true t83_53) (fun k_65 =>
k_65 t5 H_61) H_61 fun t88_63 H_64 =>
aguard (gwant true t83_53) (fun k_68 =>
bnd (abin PP .add 3 t87_60 t88_63) fun t89_69 =>
k_68 t89_69 H_64) H_64 fun t89_66 H_67 =>
aguard (gwant true t83_53) (fun k_72 =>
bnd (sliceStr t85_54 (some t86_57) (some t89_66) none) fun t90_73 =>
k_72 t90_73 H_67) H_67 fun t90_70 H_71 =>
aguard (gwant true t83_53) (fun k_76 =>
k_76 t1 H_71) H_71 fun t91_74 H_75 =>
aguard (gwant true t83_53) (fun k_79 =>
bnd (abin PP .eql 9 t90_70 t91_74) fun t92_80 =>
k_79 t92_80 H_75) H_75 fun t92_77 H_78 =>
bnd (pickV t83_53 t92_77 (.bool false)) fun t93_81 =>
branch t93_81 (
K t8 H_78) (
bnd (abin PP .add 3 t8 (.int .i64 1)) fun t96_82 =>
bnd (abin PP .add 3 t10 (.int .i64 1)) fun t98_83 =>
bnd (ld1 .undef H_78) fun t100_84 =>
bnd (abin PP .leq 3 t5 t100_84) fun t101_85 =>
aguard (gwant true t101_85) (fun k_88 =>
k_88 t98_83 H_78) H_78 fun t103_86 H_87 =>
aguard (gwant true t101_85) (fun k_91 =>
k_91 t96_82 H_87) H_87 fun t104_89 H_90 =>
aguard (gwant true t101_85) (fun k_94 =>
r_i_bytealg_Cutover [t104_89] H_90 fun t105_95 H_96 =>
k_94 t105_95 H_96) H_90 fun t105_92 H_93 =>
aguard (gwant true t101_85) (fun k_99 =>
bnd (abin PP .gtr 3 t103_86 t105_92) fun t106_100 =>
k_99 t106_100 H_93) H_93 fun t106_97 H_98 =>
bnd (pickV t101_85 t106_97 (.bool false)) fun t107_101 =>
branch t107_101 (
bnd (sliceStr t0 (some t96_82) none none) fun t110_102 =>
r_i_bytealg_IndexString [t110_102, t1] H_98 fun t112_103 H_104 =>
bnd (abin PP .geq 3 t112_103 (.int .i64 0)) fun t114_105 =>
branch t114_105 (
bnd (abin PP .add 3 t112_103 t96_82) fun t117_106 =>
K t117_106 H_104) (
K (.int .i64 (-1)) H_104)) (
bnd (ld1 .undef H_98) fun t119_107 =>
bnd (abin PP .gtr 3 t5 t119_107) fun t120_108 =>
aguard (gwant true t120_108) (fun k_111 =>
k_111 t98_83 H_98) H_98 fun t122_109 H_110 =>
aguard (gwant true t120_108) (fun k_114 =>
k_114 t96_82 H_110) H_110 fun t123_112 H_113 =>
aguard (gwant true t120_108) (fun k_117 =>
bnd (abin PP .shr 3 t123_112 (.int .u64 4)) fun t124_118 =>
k_117 t124_118 H_113) H_113 fun t124_115 H_116 =>
aguard (gwant true t120_108) (fun k_121 =>
bnd (abin PP .add 3 (.int .i64 4) t124_115) fun t125_122 =>
k_121 t125_122 H_116) H_116 fun t125_119 H_120 =>
aguard (gwant true t120_108) (fun k_125 =>
bnd (abin PP .geq 3 t122_109 t125_119) fun t126_126 =>
k_125 t126_126 H_120) H_120 fun t126_123 H_124 =>
bnd (pickV t120_108 t126_123 (.bool false)) fun t127_127 =>
aguard (gwant true t127_127) (fun k_130 =>
k_130 t96_82 H_124) H_124 fun t129_128 H_129 =>
aguard (gwant true t127_127) (fun k_133 =>
k_133 t9 H_129) H_129 fun t130_131 H_132 =>
aguard (gwant true t127_127) (fun k_136 =>
bnd (abin PP .lss 3 t129_128 t130_131) fun t131_137 =>
k_136 t131_137 H_132) H_132 fun t131_134 H_135 =>
bnd (pickV t127_127 t131_134 (.bool false)) fun t132_138 =>
branch t132_138 (
bnd (sliceStr t0 (some t96_82) none none) fun t135_139 =>
r_i_bytealg_IndexRabinKarp_string [t135_139, t1] H_135 fun t137_140 H_141 =>
bnd (abin PP .lss 3 t137_140 (.int .i64 0)) fun t139_142 =>
branch t139_142 (
K (.int .i64 (-1)) H_141) (
bnd (abin PP .add 3 t96_82 t137_140) fun t142_143 =>
K t142_143 H_141)) (
Y4088 [t0, t1, t5, t6, t7, t96_82, t9, t98_83] H_135)))
def r_i_stringslite_Index_p4088 (K : AV → AH → Prop) (Y4088 : List AV → AH → Prop) (s : List AV) (H : AH) : Prop := match s with
| [t0, t1, t5, t6, t7, t8, t9, t10] =>
bnd (abin PP .lss 3 t8 t9) fun t59_41 =>
branch t59_41 (
bnd (idxStr t0 t8) fun t62_42 =>
bnd (abin PP .neq 5 t62_42 t6) fun t64_43 =>
branch t64_43 (
bnd (abin PP .add 3 t8 (.int .i64 1)) fun t67_44 =>
bnd (sliceStr t0 (some t67_44) (some t9) none) fun t69_45 =>
r_i_stringslite_IndexByte [t69_45, t6] H fun t71_46 H_47 =>
bnd (abin PP .lss 3 t71_46 (.int .i64 0)) fun t73_48 =>
branch t73_48 (
K (.int .i64 (-1)) H_47) (
bnd (abin PP .add 3 t71_46 (.int .i64 1)) fun t76_49 =>
bnd (abin PP .add 3 t8 t76_49) fun t77_50 =>
r_i_stringslite_Index_p32709 K Y4088 t0 t1 t5 t6 t7 t77_50 t9 t10 H_47)) (
r_i_stringslite_Index_p32709 K Y4088 t0 t1 t5 t6 t7 t8 t9 t10 H)) (
K (.int .i64 (-1)) H)
| _ => False
def r_i_stringslite_Index : AFn := fun args H K => match args with
| [t0, t1] =>
bnd (lenStr t1) fun t15_1 =>
bnd (abin PP .eql 3 t15_1 (.int .i64 0)) fun t18_2 =>
aguard (gwant false t18_2) (fun k_5 =>
k_5 t1 H) H fun t20_3 H_4 =>
aguard (gwant false t18_2) (fun k_8 =>
k_8 t0 H_4) H_4 fun t21_6 H_7 =>
aguard (gwant false t18_2) (fun k_11 =>
bnd (abin PP .eql 9 t20_3 t21_6) fun t22_12 =>
k_11 t22_12 H_7) H_7 fun t22_9 H_10 =>
bnd (pickV t18_2 (.bool true) t22_9) fun t23_13 =>
branch t23_13 (
K (.int .i64 0) H_10) (
bnd (abin PP .eql 3 t15_1 (.int .i64 1)) fun t26_14 =>
branch t26_14 (
bnd (idxStr t1 (.int .i64 0)) fun t29_15 =>
r_i_stringslite_IndexByte [t0, t29_15] H_10 fun t30_16 H_17 =>
K t30_16 H_17) (
bnd (lenStr t0) fun t34_18 =>
bnd (abin PP .geq 3 t15_1 t34_18) fun t35_19 =>
branch t35_19 (
K (.int .i64 (-1)) H_10) (
bnd (ld1 .undef H_10) fun t38_20 =>
bnd (abin PP .leq 3 t15_1 t38_20) fun t39_21 =>
aguard (gwant true t39_21) (fun k_24 =>
k_24 t0 H_10) H_10 fun t41_22 H_23 =>
aguard (gwant true t39_21) (fun k_27 =>
bnd (lenStr t41_22) fun t42_28 =>
k_27 t42_28 H_23) H_23 fun t42_25 H_26 =>
aguard (gwant true t39_21) (fun k_31 =>
bnd (abin PP .leq 3 t42_25 (.int .i64 64)) fun t43_32 =>
k_31 t43_32 H_26) H_26 fun t43_29 H_30 =>
bnd (pickV t39_21 t43_29 (.bool false)) fun t44_33 =>
branch t44_33 (
r_i_bytealg_IndexString [t0, t1] H_30 fun t47_34 H_35 =>
K t47_34 H_35) (
bnd (idxStr t1 (.int .i64 0)) fun t49_36 =>
bnd (idxStr t1 (.int .i64 1)) fun t51_37 =>
bnd (lenStr t0) fun t53_38 =>
bnd (abin PP .sub 3 t53_38 t15_1) fun t55_39 =>
bnd (abin PP .add 3 t55_39 (.int .i64 1)) fun t56_40 =>
LoopP (r_i_stringslite_Index_p4088 K) [t0, t1, t15_1, t49_36, t51_37, (.int .i64 0), t56_40, (.int .i64 0)] H_30))))
| _ => False
theorem s_i_stringslite_Index_p32709 {w0 : World} (hw : Base w0) {K : AV → AH → Prop} {Y4088 : List AV → AH → Prop} (h4088 : Pt w0 PP F_i_stringslite_Index F_i_stringslite_Index.ntmps B_i_stringslite_Index K 4088 (fun ρ H => Y4088 [ρ 0, ρ 1, ρ 5, ρ 6, ρ 7, ρ 8, ρ 9, ρ 10] H)) : Pt w0 PP F_i_stringslite_Index F_i_stringslite_Index.ntmps B_i_stringslite_Index K 32709 (fun ρ H => r_i_stringslite_Index_p32709 K Y4088 (ρ 0) (ρ 1) (ρ 5) (ρ 6) (ρ 7) (ρ 8) (ρ 9) (ρ 10) H) :=
  Pt.walk_eq (p := [true, false, true, false, false, false, true, true, true, true, true, true, true, true]) (ct := C_i_stringslite_Index) (tab := [(4088, fun ρ H => Y4088 [ρ 0, ρ 1, ρ 5, ρ 6, ρ 7, ρ 8, ρ 9, ρ 10] H)])
    (C_i_stringslite_Index_ok hw) PP_mixed B_i_stringslite_Index_ok ⟨h4088, trivial⟩ (by kernel_rfl)
theorem s_i_stringslite_Index_p4088 {w0 : World} (hw : Base w0) {K : AV → AH → Prop} : Pt w0 PP F_i_stringslite_Index F_i_stringslite_Index.ntmps B_i_stringslite_Index K 4088 (fun ρ H => LoopP (r_i_stringslite_Index_p4088 K) [ρ 0, ρ 1, ρ 5, ρ 6, ρ 7, ρ 8, ρ 9, ρ 10] H) :=
  Pt.loop (st := fun ρ => [ρ 0, ρ 1, ρ 5, ρ 6, ρ 7, ρ 8, ρ 9, ρ 10]) fun Y4088 h4088 => Pt.walk_eq (p := [false, false, false, true, true, true, true, true, true, true, true]) (ct := C_i_stringslite_Index) (tab := [(4088, fun ρ H => Y4088 [ρ 0, ρ 1, ρ 5, ρ 6, ρ 7, ρ 8, ρ 9, ρ 10] H), (32709, fun ρ H => r_i_stringslite_Index_p32709 K Y4088 (ρ 0) (ρ 1) (ρ 5) (ρ 6) (ρ 7) (ρ 8) (ρ 9) (ρ 10) H)])
    (C_i_stringslite_Index_ok hw) PP_mixed B_i_stringslite_Index_ok ⟨h4088, s_i_stringslite_Index_p32709 hw h4088, trivial⟩ (by kernel_rfl)
theorem r_i_stringslite_Index_ok {w0 : World} (hw : Base w0) : FnOk w0 PP 57 (r_i_stringslite_Index) := ⟨⟨F_i_stringslite_Index, by kernel_rfl, by kernel_rfl, by kernel_rfl⟩, sound_of_pt (fn := F_i_stringslite_Index) (body := B_i_stringslite_Index) (n := 2) (by kernel_rfl) (by kernel_rfl)
  (fun args H K h => by unfold r_i_stringslite_Index at h; split at h; rfl; exact h.elim) fun K => Pt.walk_eq (p := []) (ct := C_i_stringslite_Index) (tab := [(4088, fun ρ H => LoopP (r_i_stringslite_Index_p4088 K) [ρ 0, ρ 1, ρ 5, ρ 6, ρ 7, ρ 8, ρ 9, ρ 10] H)])
    (C_i_stringslite_Index_ok hw) PP_mixed B_i_stringslite_Index_ok ⟨s_i_stringslite_Index_p4088 hw, trivial⟩ (by kernel_rfl)⟩

abbrev k_strings_Index : Nat := 37
-- strings.Index
noncomputable abbrev F_strings_Index : Func := Go.Proofs.Tryd.f37
noncomputable def B_strings_Index : Code := (F_strings_Index.body).getD .skip
def C_strings_Index : Table := tableOf [(57, r_i_stringslite_Index)]
theorem C_strings_Index_ok {w0 : World} (hw : Base w0) : (C_strings_Index).Ok w0 PP := TableOk.ok (w0 := w0) (P := PP) (l := [(57, r_i_stringslite_Index)]) ⟨(r_i_stringslite_Index_ok hw).call, trivial⟩
theorem B_strings_Index_ok : codeOk F_strings_Index.ntmps B_strings_Index = true := by kernel_rfl
def r_strings_Index : AFn := fun args H K => match args with
| [t0, t1] =>
r_i_stringslite_Index [t0, t1] H fun t7_1 H_2 =>
K t7_1 H_2
| _ => False
theorem r_strings_Index_ok {w0 : World} (hw : Base w0) : FnOk w0 PP 37 (r_strings_Index) := ⟨⟨F_strings_Index, by kernel_rfl, by kernel_rfl, by kernel_rfl⟩, sound_of_pt (fn := F_strings_Index) (body := B_strings_Index) (n := 2) (by kernel_rfl) (by kernel_rfl)
  (fun args H K h => by unfold r_strings_Index at h; split at h; rfl; exact h.elim) fun K => Pt.walk_eq (p := []) (ct := C_strings_Index) (tab := [])
    (C_strings_Index_ok hw) PP_mixed B_strings_Index_ok trivial (by kernel_rfl)⟩

abbrev k_strings_explode : Nat := 35
def r_strings_explode : AFn := fun _ _ _ => False
theorem r_strings_explode_ok {w0 : World} (hw : Base w0) : NatOk w0 PP 35 r_strings_explode := ⟨fun _ _ _ h => h.elim⟩

abbrev k_unicode_utf8_RuneCountInString : Nat := 55
def r_unicode_utf8_RuneCountInString : AFn := fun _ _ _ => False
theorem r_unicode_utf8_RuneCountInString_ok {w0 : World} (hw : Base w0) : NatOk w0 PP 55 r_unicode_utf8_RuneCountInString := ⟨fun _ _ _ h => h.elim⟩

abbrev k_strings_Count : Nat := 36
-- strings.Count
noncomputable abbrev F_strings_Count : Func := Go.Proofs.Tryd.f36
noncomputable def B_strings_Count : Code := (F_strings_Count.body).getD .skip
def C_strings_Count : Table := tableOf [(37, r_strings_Index), (55, r_unicode_utf8_RuneCountInString), (56, r_i_bytealg_CountString)]
theorem C_strings_Count_ok {w0 : World} (hw : Base w0) : (C_strings_Count).Ok w0 PP := TableOk.ok (w0 := w0) (P := PP) (l := [(37, r_strings_Index), (55, r_unicode_utf8_RuneCountInString), (56, r_i_bytealg_CountString)]) ⟨(r_strings_Index_ok hw).call, (r_unicode_utf8_RuneCountInString_ok hw).call, (r_i_bytealg_CountString_ok hw).call, trivial⟩
theorem B_strings_Count_ok : codeOk F_strings_Count.ntmps B_strings_Count = true := by kernel_rfl
def r_strings_Count_p124 (K : AV → AH → Prop) (Y124 : List AV → AH → Prop) (s : List AV) (H : AH) : Prop := match s with
| [t0, t1, t5] =>
r_strings_Index [t0, t1] H fun t22_11 H_12 =>
bnd (abin PP .eql 3 t22_11 (.int .i64 (-1))) fun t24_13 =>
branch t24_13 (
K t5 H_12) (
bnd (abin PP .add 3 t5 (.int .i64 1)) fun t27_14 =>
bnd (lenStr t1) fun t31_15 =>
bnd (abin PP .add 3 t22_11 t31_15) fun t32_16 =>
bnd (sliceStr t0 (some t32_16) none none) fun t33_17 =>
Y124 [t33_17, t1, t27_14] H_12)
| _ => False
def r_strings_Count : AFn := fun args H K => match args with
| [t0, t1] =>
bnd (lenStr t1) fun t8_1 =>
bnd (abin PP .eql 3 t8_1 (.int .i64 0)) fun t9_2 =>
branch t9_2 (
r_unicode_utf8_RuneCountInString [t0] H fun t11_3 H_4 =>
bnd (abin PP .add 3 t11_3 (.int .i64 1)) fun t12_5 =>
K t12_5 H_4) (
bnd (lenStr t1) fun t14_6 =>
bnd (abin PP .eql 3 t14_6 (.int .i64 1)) fun t15_7 =>
branch t15_7 (
bnd (idxStr t1 (.int .i64 0)) fun t18_8 =>
r_i_bytealg_CountString [t0, t18_8] H fun t19_9 H_10 =>
K t19_9 H_10) (
LoopP (r_strings_Count_p124 K) [t0, t1, (.int .i64 0)] H))
| _ => False
theorem s_strings_Count_p124 {w0 : World} (hw : Base w0) {K : AV → AH → Prop} : Pt w0 PP F_strings_Count F_strings_Count.ntmps B_strings_Count K 124 (fun ρ H => LoopP (r_strings_Count_p124 K) [ρ 0, ρ 1, ρ 5] H) :=
  Pt.loop (st := fun ρ => [ρ 0, ρ 1, ρ 5]) fun Y124 h124 => Pt.walk_eq (p := [false, false, true, true, true, true]) (ct := C_strings_Count) (tab := [(124, fun ρ H => Y124 [ρ 0, ρ 1, ρ 5] H)])
    (C_strings_Count_ok hw) PP_mixed B_strings_Count_ok ⟨h124, trivial⟩ (by kernel_rfl)
theorem r_strings_Count_ok {w0 : World} (hw : Base w0) : FnOk w0 PP 36 (r_strings_Count) := ⟨⟨F_strings_Count, by kernel_rfl, by kernel_rfl, by kernel_rfl⟩, sound_of_pt (fn := F_strings_Count) (body := B_strings_Count) (n := 2) (by kernel_rfl) (by kernel_rfl)
  (fun args H K h => by unfold r_strings_Count at h; split at h; rfl; exact h.elim) fun K => Pt.walk_eq (p := []) (ct := C_strings_Count) (tab := [(124, fun ρ H => LoopP (r_strings_Count_p124 K) [ρ 0, ρ 1, ρ 5] H)])
    (C_strings_Count_ok hw) PP_mixed B_strings_Count_ok ⟨s_strings_Count_p124 hw, trivial⟩ (by kernel_rfl)⟩

abbrev k_strings_genSplit : Nat := 19
-- strings.genSplit
noncomputable abbrev F_strings_genSplit : Func := Go.Proofs.Tryd.f19
noncomputable def B_strings_genSplit : Code := (F_strings_genSplit.body).getD .skip
def C_strings_genSplit : Table := tableOf [(35, r_strings_explode), (36, r_strings_Count), (37, r_strings_Index)]
theorem C_strings_genSplit_ok {w0 : World} (hw : Base w0) : (C_strings_genSplit).Ok w0 PP := TableOk.ok (w0 := w0) (P := PP) (l := [(35, r_strings_explode), (36, r_strings_Count), (37, r_strings_Index)]) ⟨(r_strings_explode_ok hw).call, (r_strings_Count_ok hw).call, (r_strings_Index_ok hw).call, trivial⟩
theorem B_strings_genSplit_ok : codeOk F_strings_genSplit.ntmps B_strings_genSplit = true := by kernel_rfl
def r_strings_genSplit_p1023 (K : AV → AH → Prop) (t0 : AV) (t9 : AV) (t10 : AV) (H : AH) : Prop :=
bnd (idxA 1 t9 t10) fun t61_18 =>
bnd (ast 1 t61_18 t0 H) fun H_19 =>
bnd (abin PP .add 3 t10 (.int .i64 1)) fun t64_20 =>
bnd (sliceSl 1 t9 none (some t64_20) none) fun t65_21 =>
K t65_21 H_19
def r_strings_genSplit_p4088 (K : AV → AH → Prop) (Y4088 : List AV → AH → Prop) (s : List AV) (H : AH) : Prop := match s with
| [t0, t1, t2, t3, t9, t10] =>
bnd (abin PP .lss 3 t10 t3) fun t36_14 =>
branch t36_14 (
r_strings_Index [t0, t1] H fun t39_15 H_16 =>
bnd (abin PP .lss 3 t39_15 (.int .i64 0)) fun t41_17 =>
branch t41_17 (
r_strings_genSplit_p1023 K t0 t9 t10 H_16) (
bnd (abin PP .add 3 t39_15 t2) fun t47_22 =>
bnd (sliceStr t0 none (some t47_22) none) fun t48_23 =>
bnd (idxA 1 t9 t10) fun t49_24 =>
bnd (ast 1 t49_24 t48_23 H_16) fun H_25 =>
bnd (lenStr t1) fun t53_26 =>
bnd (abin PP .add 3 t39_15 t53_26) fun t54_27 =>
bnd (sliceStr t0 (some t54_27) none none) fun t55_28 =>
bnd (abin PP .add 3 t10 (.int .i64 1)) fun t57_29 =>
Y4088 [t55_28, t1, t2, t3, t9, t57_29] H_25)) (
r_strings_genSplit_p1023 K t0 t9 t10 H)
| _ => False
def r_strings_genSplit_p31 (K : AV → AH → Prop) (t0 : AV) (t1 : AV) (t2 : AV) (t3 : AV) (H : AH) : Prop :=
bnd (lenStr t0) fun t27_9 =>
bnd (abin PP .add 3 t27_9 (.int .i64 1)) fun t28_10 =>
bnd (amin2 t3 t28_10) fun t29_11 =>
bnd (mkSl 16 [.str []] t29_11 t29_11 H) fun r_12 =>
bnd (abin PP .sub 3 t29_11 (.int .i64 1)) fun t33_13 =>
LoopP (r_strings_genSplit_p4088 K) [t0, t1, t2, t33_13, r_12.1, (.int .i64 0)] r_12.2
def r_strings_genSplit : AFn := fun args H K => match args with
| [t0, t1, t2, t3] =>
bnd (abin PP .eql 3 t3 (.int .i64 0)) fun t13_1 =>
branch t13_1 (
K (.nils) H) (
bnd (abin PP .eql 9 t1 (.str [])) fun t15_2 =>
branch t15_2 (
r_strings_explode [t0, t3] H fun t18_3 H_4 =>
K t18_3 H_4) (
bnd (abin PP .lss 3 t3 (.int .i64 0)) fun t20_5 =>
branch t20_5 (
r_strings_Count [t0, t1] H fun t23_6 H_7 =>
bnd (abin PP .add 3 t23_6 (.int .i64 1)) fun t24_8 =>
r_strings_genSplit_p31 K t0 t1 t2 t24_8 H_7) (
r_strings_genSplit_p31 K t0 t1 t2 t3 H)))
| _ => False
theorem s_strings_genSplit_p1023 {w0 : World} (hw : Base w0) {K : AV → AH → Prop} : Pt w0 PP F_strings_genSplit F_strings_genSplit.ntmps B_strings_genSplit K 1023 (fun ρ H => r_strings_genSplit_p1023 K (ρ 0) (ρ 9) (ρ 10) H) :=
  Pt.walk_eq (p := [true, true, true, true, true, true, true, true, true]) (ct := C_strings_genSplit) (tab := [])
    (C_strings_genSplit_ok hw) PP_mixed B_strings_genSplit_ok trivial (by kernel_rfl)
theorem s_strings_genSplit_p4088 {w0 : World} (hw : Base w0) {K : AV → AH → Prop} : Pt w0 PP F_strings_genSplit F_strings_genSplit.ntmps B_strings_genSplit K 4088 (fun ρ H => LoopP (r_strings_genSplit_p4088 K) [ρ 0, ρ 1, ρ 2, ρ 3, ρ 9, ρ 10] H) :=
  Pt.loop (st := fun ρ => [ρ 0, ρ 1, ρ 2, ρ 3, ρ 9, ρ 10]) fun Y4088 h4088 => Pt.walk_eq (p := [false, false, false, true, true, true, true, true, true, true, true]) (ct := C_strings_genSplit) (tab := [(4088, fun ρ H => Y4088 [ρ 0, ρ 1, ρ 2, ρ 3, ρ 9, ρ 10] H), (1023, fun ρ H => r_strings_genSplit_p1023 K (ρ 0) (ρ 9) (ρ 10) H)])
    (C_strings_genSplit_ok hw) PP_mixed B_strings_genSplit_ok ⟨h4088, s_strings_genSplit_p1023 hw, trivial⟩ (by kernel_rfl)
theorem s_strings_genSplit_p31 {w0 : World} (hw : Base w0) {K : AV → AH → Prop} : Pt w0 PP F_strings_genSplit F_strings_genSplit.ntmps B_strings_genSplit K 31 (fun ρ H => r_strings_genSplit_p31 K (ρ 0) (ρ 1) (ρ 2) (ρ 3) H) :=
  Pt.walk_eq (p := [true, true, true, true]) (ct := C_strings_genSplit) (tab := [(4088, fun ρ H => LoopP (r_strings_genSplit_p4088 K) [ρ 0, ρ 1, ρ 2, ρ 3, ρ 9, ρ 10] H)])
    (C_strings_genSplit_ok hw) PP_mixed B_strings_genSplit_ok ⟨s_strings_genSplit_p4088 hw, trivial⟩ (by kernel_rfl)
theorem r_strings_genSplit_ok {w0 : World} (hw : Base w0) : FnOk w0 PP 19 (r_strings_genSplit) := ⟨⟨F_strings_genSplit, by kernel_rfl, by kernel_rfl, by kernel_rfl⟩, sound_of_pt (fn := F_strings_genSplit) (body := B_strings_genSplit) (n := 4) (by kernel_rfl) (by kernel_rfl)
  (fun args H K h => by unfold r_strings_genSplit at h; split at h; rfl; exact h.elim) fun K => Pt.walk_eq (p := []) (ct := C_strings_genSplit) (tab := [(31, fun ρ H => r_strings_genSplit_p31 K (ρ 0) (ρ 1) (ρ 2) (ρ 3) H)])
    (C_strings_genSplit_ok hw) PP_mixed B_strings_genSplit_ok ⟨s_strings_genSplit_p31 hw, trivial⟩ (by kernel_rfl)⟩

abbrev k_strings_Split : Nat := 12
-- strings.Split
noncomputable abbrev F_strings_Split : Func := Go.Proofs.Tryd.f12
noncomputable def B_strings_Split : Code := (F_strings_Split.body).getD .skip
def C_strings_Split : Table := tableOf [(19, r_strings_genSplit)]
theorem C_strings_Split_ok {w0 : World} (hw : Base w0) : (C_strings_Split).Ok w0 PP := TableOk.ok (w0 := w0) (P := PP) (l := [(19, r_strings_genSplit)]) ⟨(r_strings_genSplit_ok hw).call, trivial⟩
theorem B_strings_Split_ok : codeOk F_strings_Split.ntmps B_strings_Split = true := by kernel_rfl
def r_strings_Split : AFn := fun args H K => match args with
| [t0, t1] =>
r_strings_genSplit [t0, t1, (.int .i64 0), (.int .i64 (-1))] H fun t7_1 H_2 =>
K t7_1 H_2
| _ => False
theorem r_strings_Split_ok {w0 : World} (hw : Base w0) : FnOk w0 PP 12 (r_strings_Split) := ⟨⟨F_strings_Split, by kernel_rfl, by kernel_rfl, by kernel_rfl⟩, sound_of_pt (fn := F_strings_Split) (body := B_strings_Split) (n := 2) (by kernel_rfl) (by kernel_rfl)
  (fun args H K h => by unfold r_strings_Split at h; split at h; rfl; exact h.elim) fun K => Pt.walk_eq (p := []) (ct := C_strings_Split) (tab := [])
    (C_strings_Split_ok hw) PP_mixed B_strings_Split_ok trivial (by kernel_rfl)⟩

abbrev k_slices_IndexFunc_string_string : Nat := 20
-- slices.IndexFunc[[]string,string]
noncomputable abbrev F_slices_IndexFunc_string_string : Func := Go.Proofs.Tryd.f20
noncomputable def B_slices_IndexFunc_string_string : Code := (F_slices_IndexFunc_string_string.body).getD .skip
def C_slices_IndexFunc_string_string (ct : Tab) : Table := tableOr ct []
theorem C_slices_IndexFunc_string_string_ok {w0 : World} (hw : Base w0) {ct : Tab} (hct : ct.Ok w0 PP) : (C_slices_IndexFunc_string_string ct).Ok w0 PP := tableOr_ok hct trivial
theorem B_slices_IndexFunc_string_string_ok : codeOk F_slices_IndexFunc_string_string.ntmps B_slices_IndexFunc_string_string = true := by kernel_rfl
def r_slices_IndexFunc_string_string_p52 (ct : Tab) (K : AV → AH → Prop) (Y52 : List AV → AH → Prop) (s : List AV) (H : AH) : Prop := match s with
| [t0, t1, t7, t8] =>
bnd (abin PP .lss 3 t8 t7) fun t9_2 =>
branch t9_2 (
bnd (idxA 1 t0 t8) fun t14_3 =>
bnd (ld1 t14_3 H) fun t15_4 =>
acallv ct t1 [t15_4] H fun t16_5 H_6 =>
branch t16_5 (
K t8 H_6) (
bnd (abin PP .add 3 t8 (.int .i64 1)) fun t18_7 =>
Y52 [t0, t1, t7, t18_7] H_6)) (
K (.int .i64 (-1)) H)
| _ => False
def r_slices_IndexFunc_string_string (ct : Tab) : AFn := fun args H K => match args with
| [t0, t1] =>
bnd (lenSl t0) fun t7_1 =>
LoopP (r_slices_IndexFunc_string_string_p52 ct K) [t0, t1, t7_1, (.int .i64 0)] H
| _ => False
theorem s_slices_IndexFunc_string_string_p52 {w0 : World} (hw : Base w0) {ct : Tab} (hct : ct.Ok w0 PP) {K : AV → AH → Prop} : Pt w0 PP F_slices_IndexFunc_string_string F_slices_IndexFunc_string_string.ntmps B_slices_IndexFunc_string_string K 52 (fun ρ H => LoopP (r_slices_IndexFunc_string_string_p52 ct K) [ρ 0, ρ 1, ρ 7, ρ 8] H) :=
  Pt.loop (st := fun ρ => [ρ 0, ρ 1, ρ 7, ρ 8]) fun Y52 h52 => Pt.walk_eq (p := [false, false, true, false, true]) (ct := C_slices_IndexFunc_string_string ct) (tab := [(52, fun ρ H => Y52 [ρ 0, ρ 1, ρ 7, ρ 8] H)])
    (C_slices_IndexFunc_string_string_ok hw hct) PP_mixed B_slices_IndexFunc_string_string_ok ⟨h52, trivial⟩ (by kernel_rfl)
theorem r_slices_IndexFunc_string_string_ok {w0 : World} (hw : Base w0) {ct : Tab} (hct : ct.Ok w0 PP) : FnOk w0 PP 20 (r_slices_IndexFunc_string_string ct) := ⟨⟨F_slices_IndexFunc_string_string, by kernel_rfl, by kernel_rfl, by kernel_rfl⟩, sound_of_pt (fn := F_slices_IndexFunc_string_string) (body := B_slices_IndexFunc_string_string) (n := 2) (by kernel_rfl) (by kernel_rfl)
  (fun args H K h => by unfold r_slices_IndexFunc_string_string at h; split at h; rfl; exact h.elim) fun K => Pt.walk_eq (p := []) (ct := C_slices_IndexFunc_string_string ct) (tab := [(52, fun ρ H => LoopP (r_slices_IndexFunc_string_string_p52 ct K) [ρ 0, ρ 1, ρ 7, ρ 8] H)])
    (C_slices_IndexFunc_string_string_ok hw hct) PP_mixed B_slices_IndexFunc_string_string_ok ⟨s_slices_IndexFunc_string_string_p52 hw hct, trivial⟩ (by kernel_rfl)⟩

abbrev k_slices_DeleteFunc_string_string : Nat := 13
-- slices.DeleteFunc[[]string,string]
noncomputable abbrev F_slices_DeleteFunc_string_string : Func := Go.Proofs.Tryd.f13
noncomputable def B_slices_DeleteFunc_string_string : Code := (F_slices_DeleteFunc_string_string.body).getD .skip
def C_slices_DeleteFunc_string_string (ct : Tab) : Table := tableOr ct [(20, (r_slices_IndexFunc_string_string ct))]
theorem C_slices_DeleteFunc_string_string_ok {w0 : World} (hw : Base w0) {ct : Tab} (hct : ct.Ok w0 PP) : (C_slices_DeleteFunc_string_string ct).Ok w0 PP := tableOr_ok hct ⟨(r_slices_IndexFunc_string_string_ok hw hct).call, trivial⟩
theorem B_slices_DeleteFunc_string_string_ok : codeOk F_slices_DeleteFunc_string_string.ntmps B_slices_DeleteFunc_string_string = true := by kernel_rfl
def r_slices_DeleteFunc_string_string_p979 (ct : Tab) (K : AV → AH → Prop) (Y244 : List AV → AH → Prop) (t0 : AV) (t1 : AV) (t5 : AV) (t6 : AV) (H : AH) : Prop :=
bnd (abin PP .add 3 t6 (.int .i64 1)) fun t21_15 =>
Y244 [t0, t1, t5, t21_15] H
def r_slices_DeleteFunc_string_string_p244 (ct : Tab) (K : AV → AH → Prop) (Y244 : List AV → AH → Prop) (s : List AV) (H : AH) : Prop := match s with
| [t0, t1, t5, t6] =>
bnd (lenSl t0) fun t18_5 =>
bnd (abin PP .lss 3 t6 t18_5) fun t19_6 =>
branch t19_6 (
bnd (idxA 1 t0 t6) fun t24_7 =>
bnd (ld1 t24_7 H) fun t25_8 =>
acallv ct t1 [t25_8] H fun t28_9 H_10 =>
bnd (aun .not t28_9) fun t29_11 =>
branch t29_11 (
bnd (idxA 1 t0 t5) fun t33_12 =>
bnd (ast 1 t33_12 t25_8 H_10) fun H_13 =>
bnd (abin PP .add 3 t5 (.int .i64 1)) fun t35_14 =>
r_slices_DeleteFunc_string_string_p979 ct K Y244 t0 t1 t35_14 t6 H_13) (
r_slices_DeleteFunc_string_string_p979 ct K Y244 t0 t1 t5 t6 H_10)) (
bnd (sliceSl 1 t0 (some t5) none none) fun t38_16 =>
bnd (oclear 1 [.str []] t38_16 H) fun H_17 =>
bnd (sliceSl 1 t0 none (some t5) none) fun t41_18 =>
K t41_18 H_17)
| _ => False
def r_slices_DeleteFunc_string_string (ct : Tab) : AFn := fun args H K => match args with
| [t0, t1] =>
(r_slices_IndexFunc_string_string ct) [t0, t1] H fun t10_1 H_2 =>
bnd (abin PP .eql 3 t10_1 (.int .i64 (-1))) fun t12_3 =>
branch t12_3 (
K t0 H_2) (
bnd (abin PP .add 3 t10_1 (.int .i64 1)) fun t15_4 =>
LoopP (r_slices_DeleteFunc_string_string_p244 ct K) [t0, t1, t10_1, t15_4] H_2)
| _ => False
theorem s_slices_DeleteFunc_string_string_p979 {w0 : World} (hw : Base w0) {ct : Tab} (hct : ct.Ok w0 PP) {K : AV → AH → Prop} {Y244 : List AV → AH → Prop} (h244 : Pt w0 PP F_slices_DeleteFunc_string_string F_slices_DeleteFunc_string_string.ntmps B_slices_DeleteFunc_string_string K 244 (fun ρ H => Y244 [ρ 0, ρ 1, ρ 5, ρ 6] H)) : Pt w0 PP F_slices_DeleteFunc_string_string F_slices_DeleteFunc_string_string.ntmps B_slices_DeleteFunc_string_string K 979 (fun ρ H => r_slices_DeleteFunc_string_string_p979 ct K Y244 (ρ 0) (ρ 1) (ρ 5) (ρ 6) H) :=
  Pt.walk_eq (p := [true, true, false, false, true, false, true, true, true]) (ct := C_slices_DeleteFunc_string_string ct) (tab := [(244, fun ρ H => Y244 [ρ 0, ρ 1, ρ 5, ρ 6] H)])
    (C_slices_DeleteFunc_string_string_ok hw hct) PP_mixed B_slices_DeleteFunc_string_string_ok ⟨h244, trivial⟩ (by kernel_rfl)
theorem s_slices_DeleteFunc_string_string_p244 {w0 : World} (hw : Base w0) {ct : Tab} (hct : ct.Ok w0 PP) {K : AV → AH → Prop} : Pt w0 PP F_slices_DeleteFunc_string_string F_slices_DeleteFunc_string_string.ntmps B_slices_DeleteFunc_string_string K 244 (fun ρ H => LoopP (r_slices_DeleteFunc_string_string_p244 ct K) [ρ 0, ρ 1, ρ 5, ρ 6] H) :=
  Pt.loop (st := fun ρ => [ρ 0, ρ 1, ρ 5, ρ 6]) fun Y244 h244 => Pt.walk_eq (p := [false, false, true, false, true, true, true]) (ct := C_slices_DeleteFunc_string_string ct) (tab := [(244, fun ρ H => Y244 [ρ 0, ρ 1, ρ 5, ρ 6] H), (979, fun ρ H => r_slices_DeleteFunc_string_string_p979 ct K Y244 (ρ 0) (ρ 1) (ρ 5) (ρ 6) H)])
    (C_slices_DeleteFunc_string_string_ok hw hct) PP_mixed B_slices_DeleteFunc_string_string_ok ⟨h244, s_slices_DeleteFunc_string_string_p979 hw hct h244, trivial⟩ (by kernel_rfl)
theorem r_slices_DeleteFunc_string_string_ok {w0 : World} (hw : Base w0) {ct : Tab} (hct : ct.Ok w0 PP) : FnOk w0 PP 13 (r_slices_DeleteFunc_string_string ct) := ⟨⟨F_slices_DeleteFunc_string_string, by kernel_rfl, by kernel_rfl, by kernel_rfl⟩, sound_of_pt (fn := F_slices_DeleteFunc_string_string) (body := B_slices_DeleteFunc_string_string) (n := 2) (by kernel_rfl) (by kernel_rfl)
  (fun args H K h => by unfold r_slices_DeleteFunc_string_string at h; split at h; rfl; exact h.elim) fun K => Pt.walk_eq (p := []) (ct := C_slices_DeleteFunc_string_string ct) (tab := [(244, fun ρ H => LoopP (r_slices_DeleteFunc_string_string_p244 ct K) [ρ 0, ρ 1, ρ 5, ρ 6] H)])
    (C_slices_DeleteFunc_string_string_ok hw hct) PP_mixed B_slices_DeleteFunc_string_string_ok ⟨s_slices_DeleteFunc_string_string_p244 hw hct, trivial⟩ (by kernel_rfl)⟩

abbrev k_unicode_utf8_ValidRune : Nat := 76
def r_unicode_utf8_ValidRune : AFn := fun _ _ _ => False
theorem r_unicode_utf8_ValidRune_ok {w0 : World} (hw : Base w0) : NatOk w0 PP 76 r_unicode_utf8_ValidRune := ⟨fun _ _ _ h => h.elim⟩

abbrev k_strings_IndexRune : Nat := 59
-- strings.IndexRune
noncomputable abbrev F_strings_IndexRune : Func := Go.Proofs.Tryd.f59
noncomputable def B_strings_IndexRune : Code := (F_strings_IndexRune.body).getD .skip
def C_strings_IndexRune : Table := tableOf [(72, r_i_bytealg_IndexString), (73, r_i_bytealg_Cutover), (75, r_strings_IndexByte), (76, r_unicode_utf8_ValidRune)]
theorem C_strings_IndexRune_ok {w0 : World} (hw : Base w0) : (C_strings_IndexRune).Ok w0 PP := TableOk.ok (w0 := w0) (P := PP) (l := [(72, r_i_bytealg_IndexString), (73, r_i_bytealg_Cutover), (75, r_strings_IndexByte), (76, r_unicode_utf8_ValidRune)]) ⟨(r_i_bytealg_IndexString_ok hw).call, (r_i_bytealg_Cutover_ok hw).call, (r_strings_IndexByte_ok hw).call, (r_unicode_utf8_ValidRune_ok hw).call, trivial⟩
theorem B_strings_IndexRune_ok : codeOk F_strings_IndexRune.ntmps B_strings_IndexRune = true := by kernel_rfl
def r_strings_IndexRune_p1764 (K : AV → AH → Prop) (Y1764 : List AV → AH → Prop) (s : List AV) (H : AH) : Prop := match s with
| [t175] =>
bnd (nextStr t175 H) fun r_15 =>
bnd (aextract r_15.1 0) fun t177_16 =>
branch t177_16 (
bnd (aextract r_15.1 1) fun t178_17 =>
bnd (aextract r_15.1 2) fun t179_18 =>
bnd (abin PP .eql 21 t179_18 (.int .i32 65533)) fun t181_19 =>
branch t181_19 (
K t178_17 r_15.2) (
Y1764 [t175] r_15.2)) (
K (.int .i64 (-1)) r_15.2)
| _ => False
def r_strings_IndexRune_p229119 (K : AV → AH → Prop) (H : AH) : Prop :=
K (.int .i64 (-1)) H
def r_strings_IndexRune_p117308787 (K : AV → AH → Prop) (Y29327196 : List AV → AH → Prop) (t0 : AV) (t7 : AV) (t8 : AV) (t9 : AV) (t14 : AV) (t15 : AV) (H : AH) : Prop :=
bnd (abin PP .add 3 t9 (.int .i64 1)) fun t126_170 =>
Y29327196 [t0, t7, t8, t126_170, t14, t15] H
def r_strings_IndexRune_p15015524644 (K : AV → AH → Prop) (Y29327196 : List AV → AH → Prop) (Y15015524644 : List AV → AH → Prop) (s : List AV) (H : AH) : Prop := match s with
| [t0, t7, t8, t9, t14, t15, t16] =>
bnd (lenStr t7) fun t142_163 =>
bnd (abin PP .lss 3 t16 t142_163) fun t143_164 =>
branch t143_164 (
bnd (abin PP .sub 3 t9 t16) fun t149_165 =>
bnd (idxStr t0 t149_165) fun t150_166 =>
bnd (abin PP .sub 3 t8 t16) fun t154_167 =>
bnd (idxStr t7 t154_167) fun t155_168 =>
bnd (abin PP .neq 5 t150_166 t155_168) fun t156_169 =>
branch t156_169 (
r_strings_IndexRune_p117308787 K Y29327196 t0 t7 t8 t9 t14 t15 H) (
bnd (abin PP .add 3 t16 (.int .i64 1)) fun t145_171 =>
Y15015524644 [t0, t7, t8, t9, t14, t15, t145_171] H)) (
bnd (abin PP .sub 3 t9 t8) fun t159_172 =>
K t159_172 H)
| _ => False
def r_strings_IndexRune_p29327196 (K : AV → AH → Prop) (Y29327196 : List AV → AH → Prop) (s : List AV) (H : AH) : Prop := match s with
| [t0, t7, t8, t9, t14, t15] =>
bnd (lenStr t0) fun t123_137 =>
bnd (abin PP .lss 3 t9 t123_137) fun t124_138 =>
branch t124_138 (
bnd (idxStr t0 t9) fun t129_139 =>
bnd (abin PP .eql 5 t129_139 t14) fun t131_140 =>
aguard (gwant true t131_140) (fun k_143 =>
k_143 t0 H) H fun t133_141 H_142 =>
aguard (gwant true t131_140) (fun k_146 =>
k_146 t9 H_142) H_142 fun t134_144 H_145 =>
aguard (gwant true t131_140) (fun k_149 =>
bnd (abin PP .sub 3 t134_144 (.int .i64 1)) fun t135_150 =>
k_149 t135_150 H_145) H_145 fun t135_147 H_148 =>
aguard (gwant true t131_140) (fun k_153 =>
bnd (idxStr t133_141 t135_147) fun t136_154 =>
k_153 t136_154 H_148) H_148 fun t136_151 H_152 =>
aguard (gwant true t131_140) (fun k_157 =>
k_157 t15 H_152) H_152 fun t137_155 H_156 =>
aguard (gwant true t131_140) (fun k_160 =>
bnd (abin PP .eql 5 t136_151 t137_155) fun t138_161 =>
k_160 t138_161 H_156) H_156 fun t138_158 H_159 =>
bnd (pickV t131_140 t138_158 (.bool false)) fun t139_162 =>
branch t139_162 (
LoopP (r_strings_IndexRune_p15015524644 K Y29327196) [t0, t7, t8, t9, t14, t15, (.int .i64 2)] H_159) (
r_strings_IndexRune_p117308787 K Y29327196 t0 t7 t8 t9 t14 t15 H_159)) (
r_strings_IndexRune_p229119 K H)
| _ => False
def r_strings_IndexRune_p114558 (K : AV → AH → Prop) (Y114558 : List AV → AH → Prop) (s : List AV) (H : AH) : Prop := match s with
| [t0, t1, t7, t8, t9] =>
branch (.bool true) (
bnd (abin PP .sub 3 t9 t8) fun t102_126 =>
bnd (sliceStr t0 (some t102_126) none none) fun t103_127 =>
bnd (convR (.int .i32) .string t1) fun t105_128 =>
r_i_bytealg_IndexString [t103_127, t105_128] H fun t106_129 H_130 =>
bnd (abin PP .geq 3 t106_129 (.int .i64 0)) fun t108_131 =>
branch t108_131 (
bnd (abin PP .add 3 t9 t106_129) fun t111_132 =>
bnd (abin PP .sub 3 t111_132 t8) fun t113_133 =>
K t113_133 H_130) (
r_strings_IndexRune_p229119 K H_130)) (
bnd (idxStr t7 t8) fun t116_134 =>
bnd (abin PP .sub 3 t8 (.int .i64 1)) fun t119_135 =>
bnd (idxStr t7 t119_135) fun t120_136 =>
LoopP (r_strings_IndexRune_p29327196 K) [t0, t7, t8, t9, t116_134, t120_136] H)
| _ => False
def r_strings_IndexRune_p14662734 (K : AV → AH → Prop) (Y114552 : List AV → AH → Prop) (Y14662734 : List AV → AH → Prop) (s : List AV) (H : AH) : Prop := match s with
| [t0, t1, t7, t8, t9, t10] =>
bnd (abin PP .add 3 t10 (.int .i64 1)) fun t69_46 =>
bnd (abin PP .add 3 t9 (.int .i64 1)) fun t71_47 =>
aguard (gwant true (.bool true)) (fun k_50 =>
k_50 t69_46 H) H fun t73_48 H_49 =>
aguard (gwant true (.bool true)) (fun k_53 =>
k_53 t71_47 H_49) H_49 fun t74_51 H_52 =>
aguard (gwant true (.bool true)) (fun k_56 =>
r_i_bytealg_Cutover [t74_51] H_52 fun t75_57 H_58 =>
k_56 t75_57 H_58) H_52 fun t75_54 H_55 =>
aguard (gwant true (.bool true)) (fun k_61 =>
bnd (abin PP .gtr 3 t73_48 t75_54) fun t76_62 =>
k_61 t76_62 H_55) H_55 fun t76_59 H_60 =>
bnd (pickV (.bool true) t76_59 (.bool false)) fun t77_63 =>
aguard (gwant true t77_63) (fun k_66 =>
k_66 t71_47 H_60) H_60 fun t79_64 H_65 =>
aguard (gwant true t77_63) (fun k_69 =>
k_69 t0 H_65) H_65 fun t80_67 H_68 =>
aguard (gwant true t77_63) (fun k_72 =>
bnd (lenStr t80_67) fun t81_73 =>
k_72 t81_73 H_68) H_68 fun t81_70 H_71 =>
aguard (gwant true t77_63) (fun k_76 =>
bnd (abin PP .lss 3 t79_64 t81_70) fun t82_77 =>
k_76 t82_77 H_71) H_71 fun t82_74 H_75 =>
bnd (pickV t77_63 t82_74 (.bool false)) fun t83_78 =>
aguard (gwant false t83_78) (fun k_81 =>
k_81 (.bool false) H_75) H_75 fun t85_79 H_80 =>
aguard (gwant true t85_79) (fun k_84 =>
k_84 t69_46 H_80) H_80 fun t86_82 H_83 =>
aguard (gwant true t85_79) (fun k_87 =>
k_87 t71_47 H_83) H_83 fun t87_85 H_86 =>
aguard (gwant true t85_79) (fun k_90 =>
bnd (abin PP .shr 3 t87_85 (.int .u64 4)) fun t88_91 =>
k_90 t88_91 H_86) H_86 fun t88_88 H_89 =>
aguard (gwant true t85_79) (fun k_94 =>
bnd (abin PP .add 3 (.int .i64 4) t88_88) fun t89_95 =>
k_94 t89_95 H_89) H_89 fun t89_92 H_93 =>
aguard (gwant true t85_79) (fun k_98 =>
bnd (abin PP .geq 3 t86_82 t89_92) fun t90_99 =>
k_98 t90_99 H_93) H_93 fun t90_96 H_97 =>
aguard (gwant false t83_78) (fun k_102 =>
bnd (pickV t85_79 t90_96 (.bool false)) fun t91_103 =>
k_102 t91_103 H_97) H_97 fun t91_100 H_101 =>
aguard (gwant false t83_78) (fun k_106 =>
k_106 t91_100 H_101) H_101 fun t92_104 H_105 =>
aguard (gwant true t92_104) (fun k_109 =>
k_109 t71_47 H_105) H_105 fun t93_107 H_108 =>
aguard (gwant true t92_104) (fun k_112 =>
k_112 t0 H_108) H_108 fun t94_110 H_111 =>
aguard (gwant true t92_104) (fun k_115 =>
bnd (lenStr t94_110) fun t95_116 =>
k_115 t95_116 H_111) H_111 fun t95_113 H_114 =>
aguard (gwant true t92_104) (fun k_119 =>
bnd (abin PP .lss 3 t93_107 t95_113) fun t96_120 =>
k_119 t96_120 H_114) H_114 fun t96_117 H_118 =>
aguard (gwant false t83_78) (fun k_123 =>
bnd (pickV t92_104 t96_117 (.bool false)) fun t97_124 =>
k_123 t97_124 H_118) H_118 fun t97_121 H_122 =>
bnd (pickV t83_78 (.bool true) t97_121) fun t98_125 =>
branch t98_125 (
LoopP (r_strings_IndexRune_p114558 K) [t0, t1, t7, t8, t71_47] H_122) (
Y114552 [t0, t1, t7, t8, t71_47, t69_46] H_122)
| _ => False
def r_strings_IndexRune_p29325460 (K : AV → AH → Prop) (Y114552 : List AV → AH → Prop) (Y29325460 : List AV → AH → Prop) (s : List AV) (H : AH) : Prop := match s with
| [t0, t1, t7, t8, t9, t10, t12] =>
bnd (lenStr t7) fun t50_39 =>
bnd (abin PP .lss 3 t12 t50_39) fun t51_40 =>
branch t51_40 (
bnd (abin PP .sub 3 t9 t12) fun t57_41 =>
bnd (idxStr t0 t57_41) fun t58_42 =>
bnd (abin PP .sub 3 t8 t12) fun t62_43 =>
bnd (idxStr t7 t62_43) fun t63_44 =>
bnd (abin PP .neq 5 t58_42 t63_44) fun t64_45 =>
branch t64_45 (
LoopP (r_strings_IndexRune_p14662734 K Y114552) [t0, t1, t7, t8, t9, t10] H) (
bnd (abin PP .add 3 t12 (.int .i64 1)) fun t53_173 =>
Y29325460 [t0, t1, t7, t8, t9, t10, t53_173] H)) (
bnd (abin PP .sub 3 t9 t8) fun t67_174 =>
K t67_174 H)
| _ => False
def r_strings_IndexRune_p1832841 (K : AV → AH → Prop) (Y114552 : List AV → AH → Prop) (t0 : AV) (t1 : AV) (t7 : AV) (t8 : AV) (t9 : AV) (t10 : AV) (H : AH) : Prop :=
LoopP (r_strings_IndexRune_p29325460 K Y114552) [t0, t1, t7, t8, t9, t10, (.int .i64 1)] H
def r_strings_IndexRune_p114552 (K : AV → AH → Prop) (Y114552 : List AV → AH → Prop) (s : List AV) (H : AH) : Prop := match s with
| [t0, t1, t7, t8, t9, t10] =>
bnd (lenStr t0) fun t25_26 =>
bnd (abin PP .lss 3 t9 t25_26) fun t26_27 =>
branch t26_27 (
bnd (idxStr t0 t9) fun t29_28 =>
bnd (idxStr t7 t8) fun t32_29 =>
bnd (abin PP .neq 5 t29_28 t32_29) fun t33_30 =>
branch t33_30 (
bnd (abin PP .add 3 t9 (.int .i64 1)) fun t36_31 =>
bnd (sliceStr t0 (some t36_31) none none) fun t37_32 =>
bnd (idxStr t7 t8) fun t40_33 =>
r_strings_IndexByte [t37_32, t40_33] H fun t41_34 H_35 =>
bnd (abin PP .lss 3 t41_34 (.int .i64 0)) fun t43_36 =>
branch t43_36 (
K (.int .i64 (-1)) H_35) (
bnd (abin PP .add 3 t41_34 (.int .i64 1)) fun t46_37 =>
bnd (abin PP .add 3 t9 t46_37) fun t47_38 =>
r_strings_IndexRune_p1832841 K Y114552 t0 t1 t7 t8 t47_38 t10 H_35)) (
r_strings_IndexRune_p1832841 K Y114552 t0 t1 t7 t8 t9 t10 H)) (
K (.int .i64 (-1)) H)
| _ => False
def r_strings_IndexRune : AFn := fun args H K => match args with
| [t0, t1] =>
bnd (abin PP .leq 21 (.int .i32 0) t1) fun t162_1 =>
aguard (gwant true t162_1) (fun k_4 =>
k_4 t1 H) H fun t164_2 H_3 =>
aguard (gwant true t162_1) (fun k_7 =>
bnd (abin PP .lss 21 t164_2 (.int .i32 128)) fun t165_8 =>
k_7 t165_8 H_3) H_3 fun t165_5 H_6 =>
bnd (pickV t162_1 t165_5 (.bool false)) fun t166_9 =>
branch t166_9 (
bnd (convR (.int .i32) (.int .u8) t1) fun t169_10 =>
r_strings_IndexByte [t0, t169_10] H_6 fun t170_11 H_12 =>
K t170_11 H_12) (
bnd (abin PP .eql 21 t1 (.int .i32 65533)) fun t173_13 =>
branch t173_13 (
bnd (rangeStr t0 H_6) fun r_14 =>
LoopP (r_strings_IndexRune_p1764 K) [r_14.1] r_14.2) (
r_unicode_utf8_ValidRune [t1] H_6 fun t185_20 H_21 =>
bnd (aun .not t185_20) fun t186_22 =>
branch t186_22 (
K (.int .i64 (-1)) H_21) (
bnd (convR (.int .i32) .string t1) fun t18_23 =>
bnd (lenStr t18_23) fun t20_24 =>
bnd (abin PP .sub 3 t20_24 (.int .i64 1)) fun t21_25 =>
LoopP (r_strings_IndexRune_p114552 K) [t0, t1, t18_23, t21_25, t21_25, (.int .i64 0)] H_21)))
| _ => False
theorem s_strings_IndexRune_p1764 {w0 : World} (hw : Base w0) {K : AV → AH → Prop} : Pt w0 PP F_strings_IndexRune F_strings_IndexRune.ntmps B_strings_IndexRune K 1764 (fun ρ H => LoopP (r_strings_IndexRune_p1764 K) [ρ 175] H) :=
  Pt.loop (st := fun ρ => [ρ 175]) fun Y1764 h1764 => Pt.walk_eq (p := [false, false, true, false, false, true, true, true, false, true]) (ct := C_strings_IndexRune) (tab := [(1764, fun ρ H => Y1764 [ρ 175] H)])
    (C_strings_IndexRune_ok hw) PP_mixed B_strings_IndexRune_ok ⟨h1764, trivial⟩ (by kernel_rfl)
theorem s_strings_IndexRune_p229119 {w0 : World} (hw : Base w0) {K : AV → AH → Prop} : Pt w0 PP F_strings_IndexRune F_strings_IndexRune.ntmps B_strings_IndexRune K 229119 (fun ρ H => r_strings_IndexRune_p229119 K H) :=
  Pt.walk_eq (p := [true, true, true, true, true, true, true, true, false, true, true, true, true, true, true, false, true]) (ct := C_strings_IndexRune) (tab := [])
    (C_strings_IndexRune_ok hw) PP_mixed B_strings_IndexRune_ok trivial (by kernel_rfl)
theorem s_strings_IndexRune_p117308787 {w0 : World} (hw : Base w0) {K : AV → AH → Prop} {Y29327196 : List AV → AH → Prop} (h29327196 : Pt w0 PP F_strings_IndexRune F_strings_IndexRune.ntmps B_strings_IndexRune K 29327196 (fun ρ H => Y29327196 [ρ 0, ρ 7, ρ 8, ρ 9, ρ 14, ρ 15] H)) : Pt w0 PP F_strings_IndexRune F_strings_IndexRune.ntmps B_strings_IndexRune K 117308787 (fun ρ H => r_strings_IndexRune_p117308787 K Y29327196 (ρ 0) (ρ 7) (ρ 8) (ρ 9) (ρ 14) (ρ 15) H) :=
  Pt.walk_eq (p := [true, true, false, false, true, true, true, false, true, false, true, true, true, true, true, true, true, false, true, true, true, true, true, true, false, true]) (ct := C_strings_IndexRune) (tab := [(29327196, fun ρ H => Y29327196 [ρ 0, ρ 7, ρ 8, ρ 9, ρ 14, ρ 15] H)])
    (C_strings_IndexRune_ok hw) PP_mixed B_strings_IndexRune_ok ⟨h29327196, trivial⟩ (by kernel_rfl)
theorem s_strings_IndexRune_p15015524644 {w0 : World} (hw : Base w0) {K : AV → AH → Prop} {Y29327196 : List AV → AH → Prop} (h29327196 : Pt w0 PP F_strings_IndexRune F_strings_IndexRune.ntmps B_strings_IndexRune K 29327196 (fun ρ H => Y29327196 [ρ 0, ρ 7, ρ 8, ρ 9, ρ 14, ρ 15] H)) : Pt w0 PP F_strings_IndexRune F_strings_IndexRune.ntmps B_strings_IndexRune K 15015524644 (fun ρ H => LoopP (r_strings_IndexRune_p15015524644 K Y29327196) [ρ 0, ρ 7, ρ 8, ρ 9, ρ 14, ρ 15, ρ 16] H) :=
  Pt.loop (st := fun ρ => [ρ 0, ρ 7, ρ 8, ρ 9, ρ 14, ρ 15, ρ 16]) fun Y15015524644 h15015524644 => Pt.walk_eq (p := [false, false, true, false, false, true, false, false, true, false, false, true, true, true, false, true, false, true, true, true, true, true, true, true, false, true, true, true, true, true, true, false, true]) (ct := C_strings_IndexRune) (tab := [(15015524644, fun ρ H => Y15015524644 [ρ 0, ρ 7, ρ 8, ρ 9, ρ 14, ρ 15, ρ 16] H), (29327196, fun ρ H => Y29327196 [ρ 0, ρ 7, ρ 8, ρ 9, ρ 14, ρ 15] H), (117308787, fun ρ H => r_strings_IndexRune_p117308787 K Y29327196 (ρ 0) (ρ 7) (ρ 8) (ρ 9) (ρ 14) (ρ 15) H)])
    (C_strings_IndexRune_ok hw) PP_mixed B_strings_IndexRune_ok ⟨h15015524644, h29327196, s_strings_IndexRune_p117308787 hw h29327196, trivial⟩ (by kernel_rfl)
theorem s_strings_IndexRune_p29327196 {w0 : World} (hw : Base w0) {K : AV → AH → Prop} : Pt w0 PP F_strings_IndexRune F_strings_IndexRune.ntmps B_strings_IndexRune K 29327196 (fun ρ H => LoopP (r_strings_IndexRune_p29327196 K) [ρ 0, ρ 7, ρ 8, ρ 9, ρ 14, ρ 15] H) :=
  Pt.loop (st := fun ρ => [ρ 0, ρ 7, ρ 8, ρ 9, ρ 14, ρ 15]) fun Y29327196 h29327196 => Pt.walk_eq (p := [false, false, true, true, true, false, true, false, true, true, true, true, true, true, true, false, true, true, true, true, true, true, false, true]) (ct := C_strings_IndexRune) (tab := [(29327196, fun ρ H => Y29327196 [ρ 0, ρ 7, ρ 8, ρ 9, ρ 14, ρ 15] H), (229119, fun ρ H => r_strings_IndexRune_p229119 K H), (117308787, fun ρ H => r_strings_IndexRune_p117308787 K Y29327196 (ρ 0) (ρ 7) (ρ 8) (ρ 9) (ρ 14) (ρ 15) H), (15015524644, fun ρ H => LoopP (r_strings_IndexRune_p15015524644 K Y29327196) [ρ 0, ρ 7, ρ 8, ρ 9, ρ 14, ρ 15, ρ 16] H)])
    (C_strings_IndexRune_ok hw) PP_mixed B_strings_IndexRune_ok ⟨h29327196, s_strings_IndexRune_p229119 hw, s_strings_IndexRune_p117308787 hw h29327196, s_strings_IndexRune_p15015524644 hw h29327196, trivial⟩ (by kernel_rfl)
theorem s_strings_IndexRune_p114558 {w0 : World} (hw : Base w0) {K : AV → AH → Prop} : Pt w0 PP F_strings_IndexRune F_strings_IndexRune.ntmps B_strings_IndexRune K 114558 (fun ρ H => LoopP (r_strings_IndexRune_p114558 K) [ρ 0, ρ 1, ρ 7, ρ 8, ρ 9] H) :=
  Pt.loop (st := fun ρ => [ρ 0, ρ 1, ρ 7, ρ 8, ρ 9]) fun Y114558 h114558 => Pt.walk_eq (p := [false, true, true, true, true, true, true, false, true, true, true, true, true, true, false, true]) (ct := C_strings_IndexRune) (tab := [(114558, fun ρ H => Y114558 [ρ 0, ρ 1, ρ 7, ρ 8, ρ 9] H), (229119, fun ρ H => r_strings_IndexRune_p229119 K H), (29327196, fun ρ H => LoopP (r_strings_IndexRune_p29327196 K) [ρ 0, ρ 7, ρ 8, ρ 9, ρ 14, ρ 15] H)])
    (C_strings_IndexRune_ok hw) PP_mixed B_strings_IndexRune_ok ⟨h114558, s_strings_IndexRune_p229119 hw, s_strings_IndexRune_p29327196 hw, trivial⟩ (by kernel_rfl)
theorem s_strings_IndexRune_p14662734 {w0 : World} (hw : Base w0) {K : AV → AH → Prop} {Y114552 : List AV → AH → Prop} (h114552 : Pt w0 PP F_strings_IndexRune F_strings_IndexRune.ntmps B_strings_IndexRune K 114552 (fun ρ H => Y114552 [ρ 0, ρ 1, ρ 7, ρ 8, ρ 9, ρ 10] H)) : Pt w0 PP F_strings_IndexRune F_strings_IndexRune.ntmps B_strings_IndexRune K 14662734 (fun ρ H => LoopP (r_strings_IndexRune_p14662734 K Y114552) [ρ 0, ρ 1, ρ 7, ρ 8, ρ 9, ρ 10] H) :=
  Pt.loop (st := fun ρ => [ρ 0, ρ 1, ρ 7, ρ 8, ρ 9, ρ 10]) fun Y14662734 h14662734 => Pt.walk_eq (p := [false, true, true, true, false, false, true, false, false, false, true, true, true, true, false, true, true, true, true, true, true, false, true]) (ct := C_strings_IndexRune) (tab := [(14662734, fun ρ H => Y14662734 [ρ 0, ρ 1, ρ 7, ρ 8, ρ 9, ρ 10] H), (114552, fun ρ H => Y114552 [ρ 0, ρ 1, ρ 7, ρ 8, ρ 9, ρ 10] H), (114558, fun ρ H => LoopP (r_strings_IndexRune_p114558 K) [ρ 0, ρ 1, ρ 7, ρ 8, ρ 9] H)])
    (C_strings_IndexRune_ok hw) PP_mixed B_strings_IndexRune_ok ⟨h14662734, h114552, s_strings_IndexRune_p114558 hw, trivial⟩ (by kernel_rfl)
theorem s_strings_IndexRune_p29325460 {w0 : World} (hw : Base w0) {K : AV → AH → Prop} {Y114552 : List AV → AH → Prop} (h114552 : Pt w0 PP F_strings_IndexRune F_strings_IndexRune.ntmps B_strings_IndexRune K 114552 (fun ρ H => Y114552 [ρ 0, ρ 1, ρ 7, ρ 8, ρ 9, ρ 10] H)) : Pt w0 PP F_strings_IndexRune F_strings_IndexRune.ntmps B_strings_IndexRune K 29325460 (fun ρ H => LoopP (r_strings_IndexRune_p29325460 K Y114552) [ρ 0, ρ 1, ρ 7, ρ 8, ρ 9, ρ 10, ρ 12] H) :=
  Pt.loop (st := fun ρ => [ρ 0, ρ 1, ρ 7, ρ 8, ρ 9, ρ 10, ρ 12]) fun Y29325460 h29325460 => Pt.walk_eq (p := [false, false, true, false, true, false, false, true, false, false, false, true, true, true, true, false, true, true, true, true, true, true, false, true]) (ct := C_strings_IndexRune) (tab := [(29325460, fun ρ H => Y29325460 [ρ 0, ρ 1, ρ 7, ρ 8, ρ 9, ρ 10, ρ 12] H), (114552, fun ρ H => Y114552 [ρ 0, ρ 1, ρ 7, ρ 8, ρ 9, ρ 10] H), (14662734, fun ρ H => LoopP (r_strings_IndexRune_p14662734 K Y114552) [ρ 0, ρ 1, ρ 7, ρ 8, ρ 9, ρ 10] H)])
    (C_strings_IndexRune_ok hw) PP_mixed B_strings_IndexRune_ok ⟨h29325460, h114552, s_strings_IndexRune_p14662734 hw h114552, trivial⟩ (by kernel_rfl)
theorem s_strings_IndexRune_p1832841 {w0 : World} (hw : Base w0) {K : AV → AH → Prop} {Y114552 : List AV → AH → Prop} (h114552 : Pt w0 PP F_strings_IndexRune F_strings_IndexRune.ntmps B_strings_IndexRune K 114552 (fun ρ H => Y114552 [ρ 0, ρ 1, ρ 7, ρ 8, ρ 9, ρ 10] H)) : Pt w0 PP F_strings_IndexRune F_strings_IndexRune.ntmps B_strings_IndexRune K 1832841 (fun ρ H => r_strings_IndexRune_p1832841 K Y114552 (ρ 0) (ρ 1) (ρ 7) (ρ 8) (ρ 9) (ρ 10) H) :=
  Pt.walk_eq (p := [true, false, false, true, false, false, false, true, true, true, true, false, true, true, true, true, true, true, false, true]) (ct := C_strings_IndexRune) (tab := [(114552, fun ρ H => Y114552 [ρ 0, ρ 1, ρ 7, ρ 8, ρ 9, ρ 10] H), (29325460, fun ρ H => LoopP (r_strings_IndexRune_p29325460 K Y114552) [ρ 0, ρ 1, ρ 7, ρ 8, ρ 9, ρ 10, ρ 12] H)])
    (C_strings_IndexRune_ok hw) PP_mixed B_strings_IndexRune_ok ⟨h114552, s_strings_IndexRune_p29325460 hw h114552, trivial⟩ (by kernel_rfl)
theorem s_strings_IndexRune_p114552 {w0 : World} (hw : Base w0) {K : AV → AH → Prop} : Pt w0 PP F_strings_IndexRune F_strings_IndexRune.ntmps B_strings_IndexRune K 114552 (fun ρ H => LoopP (r_strings_IndexRune_p114552 K) [ρ 0, ρ 1, ρ 7, ρ 8, ρ 9, ρ 10] H) :=
  Pt.loop (st := fun ρ => [ρ 0, ρ 1, ρ 7, ρ 8, ρ 9, ρ 10]) fun Y114552 h114552 => Pt.walk_eq (p := [false, false, false, true, true, true, true, false, true, true, true, true, true, true, false, true]) (ct := C_strings_IndexRune) (tab := [(114552, fun ρ H => Y114552 [ρ 0, ρ 1, ρ 7, ρ 8, ρ 9, ρ 10] H), (1832841, fun ρ H => r_strings_IndexRune_p1832841 K Y114552 (ρ 0) (ρ 1) (ρ 7) (ρ 8) (ρ 9) (ρ 10) H)])
    (C_strings_IndexRune_ok hw) PP_mixed B_strings_IndexRune_ok ⟨h114552, s_strings_IndexRune_p1832841 hw h114552, trivial⟩ (by kernel_rfl)
theorem r_strings_IndexRune_ok {w0 : World} (hw : Base w0) : FnOk w0 PP 59 (r_strings_IndexRune) := ⟨⟨F_strings_IndexRune, by kernel_rfl, by kernel_rfl, by kernel_rfl⟩, sound_of_pt (fn := F_strings_IndexRune) (body := B_strings_IndexRune) (n := 2) (by kernel_rfl) (by kernel_rfl)
  (fun args H K h => by unfold r_strings_IndexRune at h; split at h; rfl; exact h.elim) fun K => Pt.walk_eq (p := []) (ct := C_strings_IndexRune) (tab := [(1764, fun ρ H => LoopP (r_strings_IndexRune_p1764 K) [ρ 175] H), (114552, fun ρ H => LoopP (r_strings_IndexRune_p114552 K) [ρ 0, ρ 1, ρ 7, ρ 8, ρ 9, ρ 10] H)])
    (C_strings_IndexRune_ok hw) PP_mixed B_strings_IndexRune_ok ⟨s_strings_IndexRune_p1764 hw, s_strings_IndexRune_p114552 hw, trivial⟩ (by kernel_rfl)⟩

abbrev k_strings_ContainsRune : Nat := 45
-- strings.ContainsRune
noncomputable abbrev F_strings_ContainsRune : Func := Go.Proofs.Tryd.f45
noncomputable def B_strings_ContainsRune : Code := (F_strings_ContainsRune.body).getD .skip
def C_strings_ContainsRune : Table := tableOf [(59, r_strings_IndexRune)]
theorem C_strings_ContainsRune_ok {w0 : World} (hw : Base w0) : (C_strings_ContainsRune).Ok w0 PP := TableOk.ok (w0 := w0) (P := PP) (l := [(59, r_strings_IndexRune)]) ⟨(r_strings_IndexRune_ok hw).call, trivial⟩
theorem B_strings_ContainsRune_ok : codeOk F_strings_ContainsRune.ntmps B_strings_ContainsRune = true := by kernel_rfl
def r_strings_ContainsRune : AFn := fun args H K => match args with
| [t0, t1] =>
r_strings_IndexRune [t0, t1] H fun t7_1 H_2 =>
bnd (abin PP .geq 3 t7_1 (.int .i64 0)) fun t8_3 =>
K t8_3 H_2
| _ => False
theorem r_strings_ContainsRune_ok {w0 : World} (hw : Base w0) : FnOk w0 PP 45 (r_strings_ContainsRune) := ⟨⟨F_strings_ContainsRune, by kernel_rfl, by kernel_rfl, by kernel_rfl⟩, sound_of_pt (fn := F_strings_ContainsRune) (body := B_strings_ContainsRune) (n := 2) (by kernel_rfl) (by kernel_rfl)
  (fun args H K h => by unfold r_strings_ContainsRune at h; split at h; rfl; exact h.elim) fun K => Pt.walk_eq (p := []) (ct := C_strings_ContainsRune) (tab := [])
    (C_strings_ContainsRune_ok hw) PP_mixed B_strings_ContainsRune_ok trivial (by kernel_rfl)⟩

abbrev k_slices_IndexFunc_api_Item_api_Item : Nat := 77
-- slices.IndexFunc[[]hostler/api.Item,hostler/api.Item]
noncomputable abbrev F_slices_IndexFunc_api_Item_api_Item : Func := Go.Proofs.Tryd.f77
noncomputable def B_slices_IndexFunc_api_Item_api_Item : Code := (F_slices_IndexFunc_api_Item_api_Item.body).getD .skip
def C_slices_IndexFunc_api_Item_api_Item (ct : Tab) : Table := tableOr ct []
theorem C_slices_IndexFunc_api_Item_api_Item_ok {w0 : World} (hw : Base w0) {ct : Tab} (hct : ct.Ok w0 PP) : (C_slices_IndexFunc_api_Item_api_Item ct).Ok w0 PP := tableOr_ok hct trivial
theorem B_slices_IndexFunc_api_Item_api_Item_ok : codeOk F_slices_IndexFunc_api_Item_api_Item.ntmps B_slices_IndexFunc_api_Item_api_Item = true := by kernel_rfl
def r_slices_IndexFunc_api_Item_api_Item_p52 (ct : Tab) (K : AV → AH → Prop) (Y52 : List AV → AH → Prop) (s : List AV) (H : AH) : Prop := match s with
| [t0, t1, t7, t8] =>
bnd (abin PP .lss 3 t8 t7) fun t9_2 =>
branch t9_2 (
bnd (idxA 2 t0 t8) fun t14_3 =>
bnd (ldN 2 t14_3 H) fun t15_4 =>
acallv ct t1 [t15_4] H fun t16_5 H_6 =>
branch t16_5 (
K t8 H_6) (
bnd (abin PP .add 3 t8 (.int .i64 1)) fun t18_7 =>
Y52 [t0, t1, t7, t18_7] H_6)) (
K (.int .i64 (-1)) H)
| _ => False
def r_slices_IndexFunc_api_Item_api_Item (ct : Tab) : AFn := fun args H K => match args with
| [t0, t1] =>
bnd (lenSl t0) fun t7_1 =>
LoopP (r_slices_IndexFunc_api_Item_api_Item_p52 ct K) [t0, t1, t7_1, (.int .i64 0)] H
| _ => False
theorem s_slices_IndexFunc_api_Item_api_Item_p52 {w0 : World} (hw : Base w0) {ct : Tab} (hct : ct.Ok w0 PP) {K : AV → AH → Prop} : Pt w0 PP F_slices_IndexFunc_api_Item_api_Item F_slices_IndexFunc_api_Item_api_Item.ntmps B_slices_IndexFunc_api_Item_api_Item K 52 (fun ρ H => LoopP (r_slices_IndexFunc_api_Item_api_Item_p52 ct K) [ρ 0, ρ 1, ρ 7, ρ 8] H) :=
  Pt.loop (st := fun ρ => [ρ 0, ρ 1, ρ 7, ρ 8]) fun Y52 h52 => Pt.walk_eq (p := [false, false, true, false, true]) (ct := C_slices_IndexFunc_api_Item_api_Item ct) (tab := [(52, fun ρ H => Y52 [ρ 0, ρ 1, ρ 7, ρ 8] H)])
    (C_slices_IndexFunc_api_Item_api_Item_ok hw hct) PP_mixed B_slices_IndexFunc_api_Item_api_Item_ok ⟨h52, trivial⟩ (by kernel_rfl)
theorem r_slices_IndexFunc_api_Item_api_Item_ok {w0 : World} (hw : Base w0) {ct : Tab} (hct : ct.Ok w0 PP) : FnOk w0 PP 77 (r_slices_IndexFunc_api_Item_api_Item ct) := ⟨⟨F_slices_IndexFunc_api_Item_api_Item, by kernel_rfl, by kernel_rfl, by kernel_rfl⟩, sound_of_pt (fn := F_slices_IndexFunc_api_Item_api_Item) (body := B_slices_IndexFunc_api_Item_api_Item) (n := 2) (by kernel_rfl) (by kernel_rfl)
  (fun args H K h => by unfold r_slices_IndexFunc_api_Item_api_Item at h; split at h; rfl; exact h.elim) fun K => Pt.walk_eq (p := []) (ct := C_slices_IndexFunc_api_Item_api_Item ct) (tab := [(52, fun ρ H => LoopP (r_slices_IndexFunc_api_Item_api_Item_p52 ct K) [ρ 0, ρ 1, ρ 7, ρ 8] H)])
    (C_slices_IndexFunc_api_Item_api_Item_ok hw hct) PP_mixed B_slices_IndexFunc_api_Item_api_Item_ok ⟨s_slices_IndexFunc_api_Item_api_Item_p52 hw hct, trivial⟩ (by kernel_rfl)⟩

abbrev k_slices_ContainsFunc_api_Item_api_Item : Nat := 61
-- slices.ContainsFunc[[]hostler/api.Item,hostler/api.Item]
noncomputable abbrev F_slices_ContainsFunc_api_Item_api_Item : Func := Go.Proofs.Tryd.f61
noncomputable def B_slices_ContainsFunc_api_Item_api_Item : Code := (F_slices_ContainsFunc_api_Item_api_Item.body).getD .skip
def C_slices_ContainsFunc_api_Item_api_Item (ct : Tab) : Table := tableOr ct [(77, (r_slices_IndexFunc_api_Item_api_Item ct))]
theorem C_slices_ContainsFunc_api_Item_api_Item_ok {w0 : World} (hw : Base w0) {ct : Tab} (hct : ct.Ok w0 PP) : (C_slices_ContainsFunc_api_Item_api_Item ct).Ok w0 PP := tableOr_ok hct ⟨(r_slices_IndexFunc_api_Item_api_Item_ok hw hct).call, trivial⟩
theorem B_slices_ContainsFunc_api_Item_api_Item_ok : codeOk F_slices_ContainsFunc_api_Item_api_Item.ntmps B_slices_ContainsFunc_api_Item_api_Item = true := by kernel_rfl
def r_slices_ContainsFunc_api_Item_api_Item (ct : Tab) : AFn := fun args H K => match args with
| [t0, t1] =>
(r_slices_IndexFunc_api_Item_api_Item ct) [t0, t1] H fun t7_1 H_2 =>
bnd (abin PP .geq 3 t7_1 (.int .i64 0)) fun t8_3 =>
K t8_3 H_2
| _ => False
theorem r_slices_ContainsFunc_api_Item_api_Item_ok {w0 : World} (hw : Base w0) {ct : Tab} (hct : ct.Ok w0 PP) : FnOk w0 PP 61 (r_slices_ContainsFunc_api_Item_api_Item ct) := ⟨⟨F_slices_ContainsFunc_api_Item_api_Item, by kernel_rfl, by kernel_rfl, by kernel_rfl⟩, sound_of_pt (fn := F_slices_ContainsFunc_api_Item_api_Item) (body := B_slices_ContainsFunc_api_Item_api_Item) (n := 2) (by kernel_rfl) (by kernel_rfl)
  (fun args H K h => by unfold r_slices_ContainsFunc_api_Item_api_Item at h; split at h; rfl; exact h.elim) fun K => Pt.walk_eq (p := []) (ct := C_slices_ContainsFunc_api_Item_api_Item ct) (tab := [])
    (C_slices_ContainsFunc_api_Item_api_Item_ok hw hct) PP_mixed B_slices_ContainsFunc_api_Item_api_Item_ok trivial (by kernel_rfl)⟩

abbrev k_i_strconv_ParseInt : Nat := 50
def r_i_strconv_ParseInt : AFn := fun _ _ _ => False
theorem r_i_strconv_ParseInt_ok {w0 : World} (hw : Base w0) : NatOk w0 PP 50 r_i_strconv_ParseInt := ⟨fun _ _ _ h => h.elim⟩

abbrev k_i_strconv_Atoi : Nat := 33
-- internal/strconv.Atoi
noncomputable abbrev F_i_strconv_Atoi : Func := Go.Proofs.Tryd.f33
noncomputable def B_i_strconv_Atoi : Code := (F_i_strconv_Atoi.body).getD .skip
def C_i_strconv_Atoi : Table := tableOf [(50, r_i_strconv_ParseInt)]
theorem C_i_strconv_Atoi_ok {w0 : World} (hw : Base w0) : (C_i_strconv_Atoi).Ok w0 PP := TableOk.ok (w0 := w0) (P := PP) (l := [(50, r_i_strconv_ParseInt)]) ⟨(r_i_strconv_ParseInt_ok hw).call, trivial⟩
theorem B_i_strconv_Atoi_ok : codeOk F_i_strconv_Atoi.ntmps B_i_strconv_Atoi = true := by kernel_rfl
def r_i_strconv_Atoi_p1887 (K : AV → AH → Prop) (t6 : AV) (H : AH) : Prop :=
K (.tup [t6, (.nili)]) H
def r_i_strconv_Atoi_p7540 (K : AV → AH → Prop) (Y7540 : List AV → AH → Prop) (s : List AV) (H : AH) : Prop := match s with
| [t5, t6, t47, t48, t49] =>
bnd (abin PP .lss 3 t49 t48) fun t50_72 =>
branch t50_72 (
bnd (idxA 1 t47 t49) fun t51_73 =>
bnd (ld1 t51_73 H) fun t52_74 =>
bnd (abin PP .sub 5 t52_74 (.int .u8 48)) fun t54_75 =>
bnd (abin PP .gtr 5 t54_75 (.int .u8 9)) fun t56_76 =>
branch t56_76 (
K (.tup [(.int .i64 0), (.iface 92 (.int .i64 2))]) H) (
bnd (abin PP .mul 3 t6 (.int .i64 10)) fun t59_77 =>
bnd (convR (.int .u8) (.int .i64) t54_75) fun t61_78 =>
bnd (abin PP .add 3 t59_77 t61_78) fun t62_79 =>
bnd (abin PP .add 3 t49 (.int .i64 1)) fun t63_80 =>
Y7540 [t5, t62_79, t47, t48, t63_80] H)) (
bnd (idxStr t5 (.int .i64 0)) fun t65_81 =>
bnd (abin PP .eql 5 t65_81 (.int .u8 45)) fun t66_82 =>
branch t66_82 (
bnd (aun .neg t6) fun t68_83 =>
r_i_strconv_Atoi_p1887 K t68_83 H) (
r_i_strconv_Atoi_p1887 K t6 H))
| _ => False
def r_i_strconv_Atoi_p235 (K : AV → AH → Prop) (t0 : AV) (t5 : AV) (H : AH) : Prop :=
bnd (strBytes t0) fun t47_70 =>
bnd (lenSl t47_70) fun t48_71 =>
LoopP (r_i_strconv_Atoi_p7540 K) [t5, (.int .i64 0), t47_70, t48_71, (.int .i64 0)] H
def r_i_strconv_Atoi : AFn := fun args H K => match args with
| [t0] =>
bnd (lenStr t0) fun t12_1 =>
aguard (gwant true (.bool false)) (fun k_4 =>
k_4 t12_1 H) H fun t14_2 H_3 =>
aguard (gwant true (.bool false)) (fun k_7 =>
bnd (abin PP .lss 3 (.int .i64 0) t14_2) fun t15_8 =>
k_7 t15_8 H_3) H_3 fun t15_5 H_6 =>
aguard (gwant true (.bool false)) (fun k_11 =>
k_11 t15_5 H_6) H_6 fun t16_9 H_10 =>
aguard (gwant true t16_9) (fun k_14 =>
k_14 t12_1 H_10) H_10 fun t17_12 H_13 =>
aguard (gwant true t16_9) (fun k_17 =>
bnd (abin PP .lss 3 t17_12 (.int .i64 10)) fun t18_18 =>
k_17 t18_18 H_13) H_13 fun t18_15 H_16 =>
aguard (gwant true (.bool false)) (fun k_21 =>
bnd (pickV t16_9 t18_15 (.bool false)) fun t19_22 =>
k_21 t19_22 H_16) H_16 fun t19_19 H_20 =>
bnd (pickV (.bool false) t19_19 (.bool false)) fun t20_23 =>
aguard (gwant false t20_23) (fun k_26 =>
k_26 (.bool true) H_20) H_20 fun t22_24 H_25 =>
aguard (gwant true t22_24) (fun k_29 =>
k_29 t12_1 H_25) H_25 fun t23_27 H_28 =>
aguard (gwant true t22_24) (fun k_32 =>
bnd (abin PP .lss 3 (.int .i64 0) t23_27) fun t24_33 =>
k_32 t24_33 H_28) H_28 fun t24_30 H_31 =>
aguard (gwant true t22_24) (fun k_36 =>
k_36 t24_30 H_31) H_31 fun t25_34 H_35 =>
aguard (gwant true t25_34) (fun k_39 =>
k_39 t12_1 H_35) H_35 fun t26_37 H_38 =>
aguard (gwant true t25_34) (fun k_42 =>
bnd (abin PP .lss 3 t26_37 (.int .i64 19)) fun t27_43 =>
k_42 t27_43 H_38) H_38 fun t27_40 H_41 =>
aguard (gwant true t22_24) (fun k_46 =>
bnd (pickV t25_34 t27_40 (.bool false)) fun t28_47 =>
k_46 t28_47 H_41) H_41 fun t28_44 H_45 =>
aguard (gwant false t20_23) (fun k_50 =>
bnd (pickV t22_24 t28_44 (.bool false)) fun t29_51 =>
k_50 t29_51 H_45) H_45 fun t29_48 H_49 =>
bnd (pickV t20_23 (.bool true) t29_48) fun t30_52 =>
branch t30_52 (
bnd (idxStr t0 (.int .i64 0)) fun t33_53 =>
bnd (abin PP .eql 5 t33_53 (.int .u8 45)) fun t34_54 =>
aguard (gwant false t34_54) (fun k_57 =>
k_57 t0 H_49) H_49 fun t36_55 H_56 =>
aguard (gwant false t34_54) (fun k_60 =>
bnd (idxStr t36_55 (.int .i64 0)) fun t37_61 =>
k_60 t37_61 H_56) H_56 fun t37_58 H_59 =>
aguard (gwant false t34_54) (fun k_64 =>
bnd (abin PP .eql 5 t37_58 (.int .u8 43)) fun t38_65 =>
k_64 t38_65 H_59) H_59 fun t38_62 H_63 =>
bnd (pickV t34_54 (.bool true) t38_62) fun t39_66 =>
branch t39_66 (
bnd (sliceStr t0 (some (.int .i64 1)) none none) fun t41_67 =>
bnd (lenStr t41_67) fun t43_68 =>
bnd (abin PP .lss 3 t43_68 (.int .i64 1)) fun t44_69 =>
branch t44_69 (
K (.tup [(.int .i64 0), (.iface 92 (.int .i64 2))]) H_63) (
r_i_strconv_Atoi_p235 K t41_67 t0 H_63)) (
r_i_strconv_Atoi_p235 K t0 t0 H_63)) (
r_i_strconv_ParseInt [t0, (.int .i64 10), (.int .i64 0)] H_49 fun t72_84 H_85 =>
bnd (aextract t72_84 0) fun t73_86 =>
bnd (aextract t72_84 1) fun t74_87 =>
K (.tup [t73_86, t74_87]) H_85)
| _ => False
theorem s_i_strconv_Atoi_p1887 {w0 : World} (hw : Base w0) {K : AV → AH → Prop} : Pt w0 PP F_i_strconv_Atoi F_i_strconv_Atoi.ntmps B_i_strconv_Atoi K 1887 (fun ρ H => r_i_strconv_Atoi_p1887 K (ρ 6) H) :=
  Pt.walk_eq (p := [true, true, true, true, true, false, true, false, true, true]) (ct := C_i_strconv_Atoi) (tab := [])
    (C_i_strconv_Atoi_ok hw) PP_mixed B_i_strconv_Atoi_ok trivial (by kernel_rfl)
theorem s_i_strconv_Atoi_p7540 {w0 : World} (hw : Base w0) {K : AV → AH → Prop} : Pt w0 PP F_i_strconv_Atoi F_i_strconv_Atoi.ntmps B_i_strconv_Atoi K 7540 (fun ρ H => LoopP (r_i_strconv_Atoi_p7540 K) [ρ 5, ρ 6, ρ 47, ρ 48, ρ 49] H) :=
  Pt.loop (st := fun ρ => [ρ 5, ρ 6, ρ 47, ρ 48, ρ 49]) fun Y7540 h7540 => Pt.walk_eq (p := [false, false, true, false, true, true, true, false, true, false, true, true]) (ct := C_i_strconv_Atoi) (tab := [(7540, fun ρ H => Y7540 [ρ 5, ρ 6, ρ 47, ρ 48, ρ 49] H), (1887, fun ρ H => r_i_strconv_Atoi_p1887 K (ρ 6) H)])
    (C_i_strconv_Atoi_ok hw) PP_mixed B_i_strconv_Atoi_ok ⟨h7540, s_i_strconv_Atoi_p1887 hw, trivial⟩ (by kernel_rfl)
theorem s_i_strconv_Atoi_p235 {w0 : World} (hw : Base w0) {K : AV → AH → Prop} : Pt w0 PP F_i_strconv_Atoi F_i_strconv_Atoi.ntmps B_i_strconv_Atoi K 235 (fun ρ H => r_i_strconv_Atoi_p235 K (ρ 0) (ρ 5) H) :=
  Pt.walk_eq (p := [true, true, false, true, false, true, true]) (ct := C_i_strconv_Atoi) (tab := [(7540, fun ρ H => LoopP (r_i_strconv_Atoi_p7540 K) [ρ 5, ρ 6, ρ 47, ρ 48, ρ 49] H)])
    (C_i_strconv_Atoi_ok hw) PP_mixed B_i_strconv_Atoi_ok ⟨s_i_strconv_Atoi_p7540 hw, trivial⟩ (by kernel_rfl)
theorem r_i_strconv_Atoi_ok {w0 : World} (hw : Base w0) : FnOk w0 PP 33 (r_i_strconv_Atoi) := ⟨⟨F_i_strconv_Atoi, by kernel_rfl, by kernel_rfl, by kernel_rfl⟩, sound_of_pt (fn := F_i_strconv_Atoi) (body := B_i_strconv_Atoi) (n := 1) (by kernel_rfl) (by kernel_rfl)
  (fun args H K h => by unfold r_i_strconv_Atoi at h; split at h; rfl; exact h.elim) fun K => Pt.walk_eq (p := []) (ct := C_i_strconv_Atoi) (tab := [(235, fun ρ H => r_i_strconv_Atoi_p235 K (ρ 0) (ρ 5) H)])
    (C_i_strconv_Atoi_ok hw) PP_mixed B_i_strconv_Atoi_ok ⟨s_i_strconv_Atoi_p235 hw, trivial⟩ (by kernel_rfl)⟩

abbrev k_strconv_toError : Nat := 34
def r_strconv_toError : AFn := fun _ _ _ => False
theorem r_strconv_toError_ok {w0 : World} (hw : Base w0) : NatOk w0 PP 34 r_strconv_toError := ⟨fun _ _ _ h => h.elim⟩

abbrev k_strconv_Atoi : Nat := 18
-- strconv.Atoi
noncomputable abbrev F_strconv_Atoi : Func := Go.Proofs.Tryd.f18
noncomputable def B_strconv_Atoi : Code := (F_strconv_Atoi.body).getD .skip
def C_strconv_Atoi : Table := tableOf [(33, r_i_strconv_Atoi), (34, r_strconv_toError)]
theorem C_strconv_Atoi_ok {w0 : World} (hw : Base w0) : (C_strconv_Atoi).Ok w0 PP := TableOk.ok (w0 := w0) (P := PP) (l := [(33, r_i_strconv_Atoi), (34, r_strconv_toError)]) ⟨(r_i_strconv_Atoi_ok hw).call, (r_strconv_toError_ok hw).call, trivial⟩
theorem B_strconv_Atoi_ok : codeOk F_strconv_Atoi.ntmps B_strconv_Atoi = true := by kernel_rfl
def r_strconv_Atoi : AFn := fun args H K => match args with
| [t0] =>
r_i_strconv_Atoi [t0] H fun t8_1 H_2 =>
bnd (aextract t8_1 0) fun t9_3 =>
bnd (aextract t8_1 1) fun t10_4 =>
bnd (cmpNil .i .neq t10_4) fun t12_5 =>
branch t12_5 (
r_strconv_toError [(.str [65, 116, 111, 105]), t0, (.int .i64 0), (.int .i64 0), t10_4] H_2 fun t16_6 H_7 =>
K (.tup [t9_3, t16_6]) H_7) (
K (.tup [t9_3, (.nili)]) H_2)
| _ => False
theorem r_strconv_Atoi_ok {w0 : World} (hw : Base w0) : FnOk w0 PP 18 (r_strconv_Atoi) := ⟨⟨F_strconv_Atoi, by kernel_rfl, by kernel_rfl, by kernel_rfl⟩, sound_of_pt (fn := F_strconv_Atoi) (body := B_strconv_Atoi) (n := 1) (by kernel_rfl) (by kernel_rfl)
  (fun args H K h => by unfold r_strconv_Atoi at h; split at h; rfl; exact h.elim) fun K => Pt.walk_eq (p := []) (ct := C_strconv_Atoi) (tab := [])
    (C_strconv_Atoi_ok hw) PP_mixed B_strconv_Atoi_ok trivial (by kernel_rfl)⟩

abbrev k_strings_trimLeftByte : Nat := 26
def r_strings_trimLeftByte : AFn := fun _ _ _ => False
theorem r_strings_trimLeftByte_ok {w0 : World} (hw : Base w0) : NatOk w0 PP 26 r_strings_trimLeftByte := ⟨fun _ _ _ h => h.elim⟩

abbrev k_strings_trimRightByte : Nat := 27
def r_strings_trimRightByte : AFn := fun _ _ _ => False
theorem r_strings_trimRightByte_ok {w0 : World} (hw : Base w0) : NatOk w0 PP 27 r_strings_trimRightByte := ⟨fun _ _ _ h => h.elim⟩

abbrev k_strings_trimLeftUnicode : Nat := 31
def r_strings_trimLeftUnicode : AFn := fun _ _ _ => False
theorem r_strings_trimLeftUnicode_ok {w0 : World} (hw : Base w0) : NatOk w0 PP 31 r_strings_trimLeftUnicode := ⟨fun _ _ _ h => h.elim⟩

abbrev k_strings_trimRightUnicode : Nat := 32
def r_strings_trimRightUnicode : AFn := fun _ _ _ => False
theorem r_strings_trimRightUnicode_ok {w0 : World} (hw : Base w0) : NatOk w0 PP 32 r_strings_trimRightUnicode := ⟨fun _ _ _ h => h.elim⟩

abbrev k_strings_asciiSet_contains : Nat := 47
-- (*strings.asciiSet).contains
noncomputable abbrev F_strings_asciiSet_contains : Func := Go.Proofs.Tryd.f47
noncomputable def B_strings_asciiSet_contains : Code := (F_strings_asciiSet_contains.body).getD .skip
def C_strings_asciiSet_contains : Table := tableOf []
theorem C_strings_asciiSet_contains_ok {w0 : World} (hw : Base w0) : (C_strings_asciiSet_contains).Ok w0 PP := TableOk.ok (w0 := w0) (P := PP) (l := []) trivial
theorem B_strings_asciiSet_contains_ok : codeOk F_strings_asciiSet_contains.ntmps B_strings_asciiSet_contains = true := by kernel_rfl
def r_strings_asciiSet_contains : AFn := fun args H K => match args with
| [t0, t1] =>
bnd (nilck t0) fun t7_1 =>
bnd (idxP 256 1 t7_1 t1) fun t8_2 =>
bnd (ld1 t8_2 H) fun t9_3 =>
K t9_3 H
| _ => False
theorem r_strings_asciiSet_contains_ok {w0 : World} (hw : Base w0) : FnOk w0 PP 47 (r_strings_asciiSet_contains) := ⟨⟨F_strings_asciiSet_contains, by kernel_rfl, by kernel_rfl, by kernel_rfl⟩, sound_of_pt (fn := F_strings_asciiSet_contains) (body := B_strings_asciiSet_contains) (n := 2) (by kernel_rfl) (by kernel_rfl)
  (fun args H K h => by unfold r_strings_asciiSet_contains at h; split at h; rfl; exact h.elim) fun K => Pt.walk_eq (p := []) (ct := C_strings_asciiSet_contains) (tab := [])
    (C_strings_asciiSet_contains_ok hw) PP_mixed B_strings_asciiSet_contains_ok trivial (by kernel_rfl)⟩

abbrev k_strings_makeASCIISet : Nat := 28
-- strings.makeASCIISet
noncomputable abbrev F_strings_makeASCIISet : Func := Go.Proofs.Tryd.f28
noncomputable def B_strings_makeASCIISet : Code := (F_strings_makeASCIISet.body).getD .skip
def C_strings_makeASCIISet : Table := tableOf []
theorem C_strings_makeASCIISet_ok {w0 : World} (hw : Base w0) : (C_strings_makeASCIISet).Ok w0 PP := TableOk.ok (w0 := w0) (P := PP) (l := []) trivial
theorem B_strings_makeASCIISet_ok : codeOk F_strings_makeASCIISet.ntmps B_strings_makeASCIISet = true := by kernel_rfl
def r_strings_makeASCIISet_p52 (K : AV → AH → Prop) (Y52 : List AV → AH → Prop) (s : List AV) (H : AH) : Prop := match s with
| [t0, t2, t4] =>
bnd (lenStr t0) fun t8_3 =>
bnd (abin PP .lss 3 t4 t8_3) fun t9_4 =>
branch t9_4 (
bnd (idxStr t0 t4) fun t14_5 =>
bnd (abin PP .geq 5 t14_5 (.int .u8 128)) fun t16_6 =>
branch t16_6 (
bnd (ldN 256 t2 H) fun t17_7 =>
bnd (ast 256 t2 t17_7 H) fun H_8 =>
bnd (ldN 256 t2 H_8) fun v_9 =>
K (.tup [v_9, (.bool false)]) H_8) (
bnd (idxP 256 1 t2 t14_5) fun t19_10 =>
bnd (ast 1 t19_10 (.bool true) H) fun H_11 =>
bnd (abin PP .add 3 t4 (.int .i64 1)) fun t11_12 =>
Y52 [t0, t2, t11_12] H_11)) (
bnd (ldN 256 t2 H) fun t20_13 =>
bnd (ast 256 t2 t20_13 H) fun H_14 =>
bnd (ldN 256 t2 H_14) fun v_15 =>
K (.tup [v_15, (.bool true)]) H_14)
| _ => False
def r_strings_makeASCIISet : AFn := fun args H K => match args with
| [t0] =>
(fun (t2_1 : AV) (H_2 : AH) =>
LoopP (r_strings_makeASCIISet_p52 K) [t0, t2_1, (.int .i64 0)] H_2) (.ptr H.next 0) (H.add (.cells (List.replicate 256 (.bool false))))
| _ => False
theorem s_strings_makeASCIISet_p52 {w0 : World} (hw : Base w0) {K : AV → AH → Prop} : Pt w0 PP F_strings_makeASCIISet F_strings_makeASCIISet.ntmps B_strings_makeASCIISet K 52 (fun ρ H => LoopP (r_strings_makeASCIISet_p52 K) [ρ 0, ρ 2, ρ 4] H) :=
  Pt.loop (st := fun ρ => [ρ 0, ρ 2, ρ 4]) fun Y52 h52 => Pt.walk_eq (p := [false, false, true, false, true]) (ct := C_strings_makeASCIISet) (tab := [(52, fun ρ H => Y52 [ρ 0, ρ 2, ρ 4] H)])
    (C_strings_makeASCIISet_ok hw) PP_mixed B_strings_makeASCIISet_ok ⟨h52, trivial⟩ (by kernel_rfl)
theorem r_strings_makeASCIISet_ok {w0 : World} (hw : Base w0) : FnOk w0 PP 28 (r_strings_makeASCIISet) := ⟨⟨F_strings_makeASCIISet, by kernel_rfl, by kernel_rfl, by kernel_rfl⟩, sound_of_pt (fn := F_strings_makeASCIISet) (body := B_strings_makeASCIISet) (n := 1) (by kernel_rfl) (by kernel_rfl)
  (fun args H K h => by unfold r_strings_makeASCIISet at h; split at h; rfl; exact h.elim) fun K => Pt.walk_eq (p := []) (ct := C_strings_makeASCIISet) (tab := [(52, fun ρ H => LoopP (r_strings_makeASCIISet_p52 K) [ρ 0, ρ 2, ρ 4] H)])
    (C_strings_makeASCIISet_ok hw) PP_mixed B_strings_makeASCIISet_ok ⟨s_strings_makeASCIISet_p52 hw, trivial⟩ (by kernel_rfl)⟩

abbrev k_strings_trimLeftASCII : Nat := 29
-- strings.trimLeftASCII
noncomputable abbrev F_strings_trimLeftASCII : Func := Go.Proofs.Tryd.f29
noncomputable def B_strings_trimLeftASCII : Code := (F_strings_trimLeftASCII.body).getD .skip
def C_strings_trimLeftASCII : Table := tableOf [(47, r_strings_asciiSet_contains)]
theorem C_strings_trimLeftASCII_ok {w0 : World} (hw : Base w0) : (C_strings_trimLeftASCII).Ok w0 PP := TableOk.ok (w0 := w0) (P := PP) (l := [(47, r_strings_asciiSet_contains)]) ⟨(r_strings_asciiSet_contains_ok hw).call, trivial⟩
theorem B_strings_trimLeftASCII_ok : codeOk F_strings_trimLeftASCII.ntmps B_strings_trimLeftASCII = true := by kernel_rfl
def r_strings_trimLeftASCII_p7 (K : AV → AH → Prop) (t0 : AV) (H : AH) : Prop :=
K t0 H
def r_strings_trimLeftASCII_p24 (K : AV → AH → Prop) (Y24 : List AV → AH → Prop) (s : List AV) (H : AH) : Prop := match s with
| [t0, t1] =>
bnd (lenStr t0) fun t6_1 =>
bnd (abin PP .gtr 3 t6_1 (.int .i64 0)) fun t7_2 =>
branch t7_2 (
bnd (idxStr t0 (.int .i64 0)) fun t10_3 =>
r_strings_asciiSet_contains [t1, t10_3] H fun t11_4 H_5 =>
bnd (aun .not t11_4) fun t12_6 =>
branch t12_6 (
r_strings_trimLeftASCII_p7 K t0 H_5) (
bnd (sliceStr t0 (some (.int .i64 1)) none none) fun t14_7 =>
Y24 [t14_7, t1] H_5)) (
r_strings_trimLeftASCII_p7 K t0 H)
| _ => False
def r_strings_trimLeftASCII : AFn := fun args H K => match args with
| [t0, t1] =>
LoopP (r_strings_trimLeftASCII_p24 K) [t0, t1] H
| _ => False
theorem s_strings_trimLeftASCII_p7 {w0 : World} (hw : Base w0) {K : AV → AH → Prop} : Pt w0 PP F_strings_trimLeftASCII F_strings_trimLeftASCII.ntmps B_strings_trimLeftASCII K 7 (fun ρ H => r_strings_trimLeftASCII_p7 K (ρ 0) H) :=
  Pt.walk_eq (p := [true, true]) (ct := C_strings_trimLeftASCII) (tab := [])
    (C_strings_trimLeftASCII_ok hw) PP_mixed B_strings_trimLeftASCII_ok trivial (by kernel_rfl)
theorem s_strings_trimLeftASCII_p24 {w0 : World} (hw : Base w0) {K : AV → AH → Prop} : Pt w0 PP F_strings_trimLeftASCII F_strings_trimLeftASCII.ntmps B_strings_trimLeftASCII K 24 (fun ρ H => LoopP (r_strings_trimLeftASCII_p24 K) [ρ 0, ρ 1] H) :=
  Pt.loop (st := fun ρ => [ρ 0, ρ 1]) fun Y24 h24 => Pt.walk_eq (p := [false, false, false, true]) (ct := C_strings_trimLeftASCII) (tab := [(24, fun ρ H => Y24 [ρ 0, ρ 1] H), (7, fun ρ H => r_strings_trimLeftASCII_p7 K (ρ 0) H)])
    (C_strings_trimLeftASCII_ok hw) PP_mixed B_strings_trimLeftASCII_ok ⟨h24, s_strings_trimLeftASCII_p7 hw, trivial⟩ (by kernel_rfl)
theorem r_strings_trimLeftASCII_ok {w0 : World} (hw : Base w0) : FnOk w0 PP 29 (r_strings_trimLeftASCII) := ⟨⟨F_strings_trimLeftASCII, by kernel_rfl, by kernel_rfl, by kernel_rfl⟩, sound_of_pt (fn := F_strings_trimLeftASCII) (body := B_strings_trimLeftASCII) (n := 2) (by kernel_rfl) (by kernel_rfl)
  (fun args H K h => by unfold r_strings_trimLeftASCII at h; split at h; rfl; exact h.elim) fun K => Pt.walk_eq (p := []) (ct := C_strings_trimLeftASCII) (tab := [(24, fun ρ H => LoopP (r_strings_trimLeftASCII_p24 K) [ρ 0, ρ 1] H)])
    (C_strings_trimLeftASCII_ok hw) PP_mixed B_strings_trimLeftASCII_ok ⟨s_strings_trimLeftASCII_p24 hw, trivial⟩ (by kernel_rfl)⟩

abbrev k_strings_trimRightASCII : Nat := 30
-- strings.trimRightASCII
noncomputable abbrev F_strings_trimRightASCII : Func := Go.Proofs.Tryd.f30
noncomputable def B_strings_trimRightASCII : Code := (F_strings_trimRightASCII.body).getD .skip
def C_strings_trimRightASCII : Table := tableOf [(47, r_strings_asciiSet_contains)]
theorem C_strings_trimRightASCII_ok {w0 : World} (hw : Base w0) : (C_strings_trimRightASCII).Ok w0 PP := TableOk.ok (w0 := w0) (P := PP) (l := [(47, r_strings_asciiSet_contains)]) ⟨(r_strings_asciiSet_contains_ok hw).call, trivial⟩
theorem B_strings_trimRightASCII_ok : codeOk F_strings_trimRightASCII.ntmps B_strings_trimRightASCII = true := by kernel_rfl
def r_strings_trimRightASCII_p7 (K : AV → AH → Prop) (t0 : AV) (H : AH) : Prop :=
K t0 H
def r_strings_trimRightASCII_p24 (K : AV → AH → Prop) (Y24 : List AV → AH → Prop) (s : List AV) (H : AH) : Prop := match s with
| [t0, t1] =>
bnd (lenStr t0) fun t6_1 =>
bnd (abin PP .gtr 3 t6_1 (.int .i64 0)) fun t7_2 =>
branch t7_2 (
bnd (lenStr t0) fun t11_3 =>
bnd (abin PP .sub 3 t11_3 (.int .i64 1)) fun t12_4 =>
bnd (idxStr t0 t12_4) fun t13_5 =>
r_strings_asciiSet_contains [t1, t13_5] H fun t14_6 H_7 =>
bnd (aun .not t14_6) fun t15_8 =>
branch t15_8 (
r_strings_trimRightASCII_p7 K t0 H_7) (
bnd (lenStr t0) fun t18_9 =>
bnd (abin PP .sub 3 t18_9 (.int .i64 1)) fun t19_10 =>
bnd (sliceStr t0 none (some t19_10) none) fun t20_11 =>
Y24 [t20_11, t1] H_7)) (
r_strings_trimRightASCII_p7 K t0 H)
| _ => False
def r_strings_trimRightASCII : AFn := fun args H K => match args with
| [t0, t1] =>
LoopP (r_strings_trimRightASCII_p24 K) [t0, t1] H
| _ => False
theorem s_strings_trimRightASCII_p7 {w0 : World} (hw : Base w0) {K : AV → AH → Prop} : Pt w0 PP F_strings_trimRightASCII F_strings_trimRightASCII.ntmps B_strings_trimRightASCII K 7 (fun ρ H => r_strings_trimRightASCII_p7 K (ρ 0) H) :=
  Pt.walk_eq (p := [true, true]) (ct := C_strings_trimRightASCII) (tab := [])
    (C_strings_trimRightASCII_ok hw) PP_mixed B_strings_trimRightASCII_ok trivial (by kernel_rfl)
theorem s_strings_trimRightASCII_p24 {w0 : World} (hw : Base w0) {K : AV → AH → Prop} : Pt w0 PP F_strings_trimRightASCII F_strings_trimRightASCII.ntmps B_strings_trimRightASCII K 24 (fun ρ H => LoopP (r_strings_trimRightASCII_p24 K) [ρ 0, ρ 1] H) :=
  Pt.loop (st := fun ρ => [ρ 0, ρ 1]) fun Y24 h24 => Pt.walk_eq (p := [false, false, false, true]) (ct := C_strings_trimRightASCII) (tab := [(24, fun ρ H => Y24 [ρ 0, ρ 1] H), (7, fun ρ H => r_strings_trimRightASCII_p7 K (ρ 0) H)])
    (C_strings_trimRightASCII_ok hw) PP_mixed B_strings_trimRightASCII_ok ⟨h24, s_strings_trimRightASCII_p7 hw, trivial⟩ (by kernel_rfl)
theorem r_strings_trimRightASCII_ok {w0 : World} (hw : Base w0) : FnOk w0 PP 30 (r_strings_trimRightASCII) := ⟨⟨F_strings_trimRightASCII, by kernel_rfl, by kernel_rfl, by kernel_rfl⟩, sound_of_pt (fn := F_strings_trimRightASCII) (body := B_strings_trimRightASCII) (n := 2) (by kernel_rfl) (by kernel_rfl)
  (fun args H K h => by unfold r_strings_trimRightASCII at h; split at h; rfl; exact h.elim) fun K => Pt.walk_eq (p := []) (ct := C_strings_trimRightASCII) (tab := [(24, fun ρ H => LoopP (r_strings_trimRightASCII_p24 K) [ρ 0, ρ 1] H)])
    (C_strings_trimRightASCII_ok hw) PP_mixed B_strings_trimRightASCII_ok ⟨s_strings_trimRightASCII_p24 hw, trivial⟩ (by kernel_rfl)⟩

abbrev k_strings_Trim : Nat := 17
-- strings.Trim
noncomputable abbrev F_strings_Trim : Func := Go.Proofs.Tryd.f17
noncomputable def B_strings_Trim : Code := (F_strings_Trim.body).getD .skip
def C_strings_Trim : Table := tableOf [(26, r_strings_trimLeftByte), (27, r_strings_trimRightByte), (28, r_strings_makeASCIISet), (29, r_strings_trimLeftASCII), (30, r_strings_trimRightASCII), (31, r_strings_trimLeftUnicode), (32, r_strings_trimRightUnicode)]
theorem C_strings_Trim_ok {w0 : World} (hw : Base w0) : (C_strings_Trim).Ok w0 PP := TableOk.ok (w0 := w0) (P := PP) (l := [(26, r_strings_trimLeftByte), (27, r_strings_trimRightByte), (28, r_strings_makeASCIISet), (29, r_strings_trimLeftASCII), (30, r_strings_trimRightASCII), (31, r_strings_trimLeftUnicode), (32, r_strings_trimRightUnicode)]) ⟨(r_strings_trimLeftByte_ok hw).call, (r_strings_trimRightByte_ok hw).call, (r_strings_makeASCIISet_ok hw).call, (r_strings_trimLeftASCII_ok hw).call, (r_strings_trimRightASCII_ok hw).call, (r_strings_trimLeftUnicode_ok hw).call, (r_strings_trimRightUnicode_ok hw).call, trivial⟩
theorem B_strings_Trim_ok : codeOk F_strings_Trim.ntmps B_strings_Trim = true := by kernel_rfl
def r_strings_Trim : AFn := fun args H K => match args with
| [t0, t1] =>
bnd (abin PP .eql 9 t0 (.str [])) fun t8_1 =>
aguard (gwant false t8_1) (fun k_4 =>
k_4 t1 H) H fun t10_2 H_3 =>
aguard (gwant false t8_1) (fun k_7 =>
bnd (abin PP .eql 9 t10_2 (.str [])) fun t11_8 =>
k_7 t11_8 H_3) H_3 fun t11_5 H_6 =>
bnd (pickV t8_1 (.bool true) t11_5) fun t12_9 =>
branch t12_9 (
K t0 H_6) (
bnd (lenStr t1) fun t15_10 =>
bnd (abin PP .eql 3 t15_10 (.int .i64 1)) fun t16_11 =>
aguard (gwant true t16_11) (fun k_14 =>
k_14 t1 H_6) H_6 fun t18_12 H_13 =>
aguard (gwant true t16_11) (fun k_17 =>
bnd (idxStr t18_12 (.int .i64 0)) fun t19_18 =>
k_17 t19_18 H_13) H_13 fun t19_15 H_16 =>
aguard (gwant true t16_11) (fun k_21 =>
bnd (abin PP .lss 5 t19_15 (.int .u8 128)) fun t20_22 =>
k_21 t20_22 H_16) H_16 fun t20_19 H_20 =>
bnd (pickV t16_11 t20_19 (.bool false)) fun t21_23 =>
branch t21_23 (
bnd (idxStr t1 (.int .i64 0)) fun t24_24 =>
bnd (idxStr t1 (.int .i64 0)) fun t27_25 =>
r_strings_trimRightByte [t0, t24_24] H_20 fun t25_26 H_27 =>
r_strings_trimLeftByte [t25_26, t27_25] H_27 fun t28_28 H_29 =>
K t28_28 H_29) (
r_strings_makeASCIISet [t1] H_20 fun t31_30 H_31 =>
bnd (aextract t31_30 0) fun t32_32 =>
bnd (aextract t31_30 1) fun t33_33 =>
(fun (t5_34 : AV) (H_35 : AH) =>
bnd (ast 256 t5_34 t32_32 H_35) fun H_36 =>
branch t33_33 (
r_strings_trimRightASCII [t0, t5_34] H_36 fun t36_37 H_38 =>
r_strings_trimLeftASCII [t36_37, t5_34] H_38 fun t37_39 H_40 =>
K t37_39 H_40) (
r_strings_trimRightUnicode [t0, t1] H_36 fun t40_41 H_42 =>
r_strings_trimLeftUnicode [t40_41, t1] H_42 fun t42_43 H_44 =>
K t42_43 H_44)) (.ptr H_31.next 0) (H_31.add (.cells (List.replicate 256 (.bool false))))))
| _ => False
theorem r_strings_Trim_ok {w0 : World} (hw : Base w0) : FnOk w0 PP 17 (r_strings_Trim) := ⟨⟨F_strings_Trim, by kernel_rfl, by kernel_rfl, by kernel_rfl⟩, sound_of_pt (fn := F_strings_Trim) (body := B_strings_Trim) (n := 2) (by kernel_rfl) (by kernel_rfl)
  (fun args H K h => by unfold r_strings_Trim at h; split at h; rfl; exact h.elim) fun K => Pt.walk_eq (p := []) (ct := C_strings_Trim) (tab := [])
    (C_strings_Trim_ok hw) PP_mixed B_strings_Trim_ok trivial (by kernel_rfl)⟩

abbrev k_need_part : Nat := 84
-- hostler/need.part
noncomputable abbrev F_need_part : Func := Go.Proofs.Tryd.f84
noncomputable def B_need_part : Code := (F_need_part.body).getD .skip
def C_need_part : Table := tableOf []
theorem C_need_part_ok {w0 : World} (hw : Base w0) : (C_need_part).Ok w0 PP := TableOk.ok (w0 := w0) (P := PP) (l := []) trivial
theorem B_need_part_ok : codeOk F_need_part.ntmps B_need_part = true := by kernel_rfl
def r_need_part : AFn := fun args H K => match args with
| [t0, t1] =>
bnd (abin PP .geq 25 t0 (.float .f64 0)) fun t6_1 =>
aguard (gwant true t6_1) (fun k_4 =>
k_4 t0 H) H fun t8_2 H_3 =>
aguard (gwant true t6_1) (fun k_7 =>
k_7 t1 H_3) H_3 fun t9_5 H_6 =>
aguard (gwant true t6_1) (fun k_10 =>
bnd (convR (.int .i64) (.float .f64) t9_5) fun t10_11 =>
k_10 t10_11 H_6) H_6 fun t10_8 H_9 =>
aguard (gwant true t6_1) (fun k_14 =>
bnd (abin PP .leq 25 t8_2 t10_8) fun t11_15 =>
k_14 t11_15 H_9) H_9 fun t11_12 H_13 =>
bnd (pickV t6_1 t11_12 (.bool false)) fun t12_16 =>
aguard (gwant true t12_16) (fun k_19 =>
k_19 t0 H_13) H_13 fun t14_17 H_18 =>
aguard (gwant true t12_16) (fun k_22 =>
k_22 t0 H_18) H_18 fun t15_20 H_21 =>
aguard (gwant true t12_16) (fun k_25 =>
bnd (convR (.float .f64) (.int .i64) t15_20) fun t16_26 =>
k_25 t16_26 H_21) H_21 fun t16_23 H_24 =>
aguard (gwant true t12_16) (fun k_29 =>
bnd (convR (.int .i64) (.float .f64) t16_23) fun t17_30 =>
k_29 t17_30 H_24) H_24 fun t17_27 H_28 =>
aguard (gwant true t12_16) (fun k_33 =>
bnd (abin PP .eql 25 t14_17 t17_27) fun t18_34 =>
k_33 t18_34 H_28) H_28 fun t18_31 H_32 =>
bnd (pickV t12_16 t18_31 (.bool false)) fun t19_35 =>
K t19_35 H_32
| _ => False
theorem r_need_part_ok {w0 : World} (hw : Base w0) : FnOk w0 PP 84 (r_need_part) := ⟨⟨F_need_part, by kernel_rfl, by kernel_rfl, by kernel_rfl⟩, sound_of_pt (fn := F_need_part) (body := B_need_part) (n := 2) (by kernel_rfl) (by kernel_rfl)
  (fun args H K h => by unfold r_need_part at h; split at h; rfl; exact h.elim) fun K => Pt.walk_eq (p := []) (ct := C_need_part) (tab := [])
    (C_need_part_ok hw) PP_mixed B_need_part_ok trivial (by kernel_rfl)⟩

abbrev k_need_within : Nat := 78
-- hostler/need.within
noncomputable abbrev F_need_within : Func := Go.Proofs.Tryd.f78
noncomputable def B_need_within : Code := (F_need_within.body).getD .skip
def C_need_within : Table := tableOf [(84, r_need_part)]
theorem C_need_within_ok {w0 : World} (hw : Base w0) : (C_need_within).Ok w0 PP := TableOk.ok (w0 := w0) (P := PP) (l := [(84, r_need_part)]) ⟨(r_need_part_ok hw).call, trivial⟩
theorem B_need_within_ok : codeOk F_need_within.ntmps B_need_within = true := by kernel_rfl
def r_need_within : AFn := fun args H K => match args with
| [t0, t1] =>
bnd (areal t0) fun t6_1 =>
r_need_part [t6_1, t1] H fun t8_2 H_3 =>
aguard (gwant true t8_2) (fun k_6 =>
k_6 t0 H_3) H_3 fun t10_4 H_5 =>
aguard (gwant true t8_2) (fun k_9 =>
bnd (aimag t10_4) fun t11_10 =>
k_9 t11_10 H_5) H_5 fun t11_7 H_8 =>
aguard (gwant true t8_2) (fun k_13 =>
k_13 t1 H_8) H_8 fun t12_11 H_12 =>
aguard (gwant true t8_2) (fun k_16 =>
r_need_part [t11_7, t12_11] H_12 fun t13_17 H_18 =>
k_16 t13_17 H_18) H_12 fun t13_14 H_15 =>
bnd (pickV t8_2 t13_14 (.bool false)) fun t14_19 =>
K t14_19 H_15
| _ => False
theorem r_need_within_ok {w0 : World} (hw : Base w0) : FnOk w0 PP 78 (r_need_within) := ⟨⟨F_need_within, by kernel_rfl, by kernel_rfl, by kernel_rfl⟩, sound_of_pt (fn := F_need_within) (body := B_need_within) (n := 2) (by kernel_rfl) (by kernel_rfl)
  (fun args H K h => by unfold r_need_within at h; split at h; rfl; exact h.elim) fun K => Pt.walk_eq (p := []) (ct := C_need_within) (tab := [])
    (C_need_within_ok hw) PP_mixed B_need_within_ok trivial (by kernel_rfl)⟩

abbrev k_need_Right : Nat := 64
-- hostler/need.Right
noncomputable abbrev F_need_Right : Func := Go.Proofs.Tryd.f64
noncomputable def B_need_Right : Code := (F_need_Right.body).getD .skip
def C_need_Right : Table := tableOf [(78, r_need_within)]
theorem C_need_Right_ok {w0 : World} (hw : Base w0) : (C_need_Right).Ok w0 PP := TableOk.ok (w0 := w0) (P := PP) (l := [(78, r_need_within)]) ⟨(r_need_within_ok hw).call, trivial⟩
theorem B_need_Right_ok : codeOk F_need_Right.ntmps B_need_Right = true := by kernel_rfl
def r_need_Right : AFn := fun args H K => match args with
| [t0] =>
bnd (abin PP .neq 24 t0 (.cplx .f64 0 0)) fun t4_1 =>
aguard (gwant true t4_1) (fun k_4 =>
k_4 t0 H) H fun t6_2 H_3 =>
aguard (gwant true t4_1) (fun k_7 =>
r_need_within [t6_2, (.int .i64 1000)] H_3 fun t7_8 H_9 =>
k_7 t7_8 H_9) H_3 fun t7_5 H_6 =>
bnd (pickV t4_1 t7_5 (.bool false)) fun t8_10 =>
K t8_10 H_6
| _ => False
theorem r_need_Right_ok {w0 : World} (hw : Base w0) : FnOk w0 PP 64 (r_need_Right) := ⟨⟨F_need_Right, by kernel_rfl, by kernel_rfl, by kernel_rfl⟩, sound_of_pt (fn := F_need_Right) (body := B_need_Right) (n := 1) (by kernel_rfl) (by kernel_rfl)
  (fun args H K h => by unfold r_need_Right at h; split at h; rfl; exact h.elim) fun K => Pt.walk_eq (p := []) (ct := C_need_Right) (tab := [])
    (C_need_Right_ok hw) PP_mixed B_need_Right_ok trivial (by kernel_rfl)⟩

abbrev k_need_Of : Nat := 58
-- hostler/need.Of
noncomputable abbrev F_need_Of : Func := Go.Proofs.Tryd.f58
noncomputable def B_need_Of : Code := (F_need_Of.body).getD .skip
def C_need_Of : Table := tableOf []
theorem C_need_Of_ok {w0 : World} (hw : Base w0) : (C_need_Of).Ok w0 PP := TableOk.ok (w0 := w0) (P := PP) (l := []) trivial
theorem B_need_Of_ok : codeOk F_need_Of.ntmps B_need_Of = true := by kernel_rfl
def r_need_Of : AFn := fun args H K => match args with
| [t0, t1] =>
bnd (abin PP .lss 3 t0 (.int .i64 0)) fun t6_1 =>
aguard (gwant false t6_1) (fun k_4 =>
k_4 t0 H) H fun t8_2 H_3 =>
aguard (gwant false t6_1) (fun k_7 =>
bnd (abin PP .gtr 3 t8_2 (.int .i64 100000)) fun t9_8 =>
k_7 t9_8 H_3) H_3 fun t9_5 H_6 =>
bnd (pickV t6_1 (.bool true) t9_5) fun t10_9 =>
aguard (gwant false t10_9) (fun k_12 =>
k_12 t1 H_6) H_6 fun t12_10 H_11 =>
aguard (gwant false t10_9) (fun k_15 =>
bnd (abin PP .lss 3 t12_10 (.int .i64 0)) fun t13_16 =>
k_15 t13_16 H_11) H_11 fun t13_13 H_14 =>
bnd (pickV t10_9 (.bool true) t13_13) fun t14_17 =>
aguard (gwant false t14_17) (fun k_20 =>
k_20 t1 H_14) H_14 fun t16_18 H_19 =>
aguard (gwant false t14_17) (fun k_23 =>
bnd (abin PP .gtr 3 t16_18 (.int .i64 100000)) fun t17_24 =>
k_23 t17_24 H_19) H_19 fun t17_21 H_22 =>
bnd (pickV t14_17 (.bool true) t17_21) fun t18_25 =>
branch t18_25 (
K (.cplx .f64 0 0) H_22) (
bnd (convR (.int .i64) (.float .f64) t0) fun t20_26 =>
bnd (convR (.int .i64) (.float .f64) t1) fun t22_27 =>
bnd (acplx t20_26 t22_27) fun t23_28 =>
K t23_28 H_22)
| _ => False
theorem r_need_Of_ok {w0 : World} (hw : Base w0) : FnOk w0 PP 58 (r_need_Of) := ⟨⟨F_need_Of, by kernel_rfl, by kernel_rfl, by kernel_rfl⟩, sound_of_pt (fn := F_need_Of) (body := B_need_Of) (n := 2) (by kernel_rfl) (by kernel_rfl)
  (fun args H K h => by unfold r_need_Of at h; split at h; rfl; exact h.elim) fun K => Pt.walk_eq (p := []) (ct := C_need_Of) (tab := [])
    (C_need_Of_ok hw) PP_mixed B_need_Of_ok trivial (by kernel_rfl)⟩

abbrev k_message_Fields : Nat := 23
-- hostler/message.Fields
noncomputable abbrev F_message_Fields : Func := Go.Proofs.Tryd.f23
noncomputable def B_message_Fields : Code := (F_message_Fields.body).getD .skip
def C_message_Fields : Table := tableOf []
theorem C_message_Fields_ok {w0 : World} (hw : Base w0) : (C_message_Fields).Ok w0 PP := TableOk.ok (w0 := w0) (P := PP) (l := []) trivial
theorem B_message_Fields_ok : codeOk F_message_Fields.ntmps B_message_Fields = true := by kernel_rfl
def r_message_Fields_p221183 (K : AV → AH → Prop) (t3 : AV) (t16 : AV) (H : AH) : Prop :=
branch t16 (
K (.str [70, 69, 78]) H) (
bnd (abin PP .eql 3 t3 (.int .i64 8)) fun t23_8 =>
branch t23_8 (
K (.str [70, 69, 78, 84, 83]) H) (
bnd (abin PP .eql 3 t3 (.int .i64 10)) fun t25_9 =>
branch t25_9 (
K (.str [80]) H) (
bnd (abin PP .eql 3 t3 (.int .i64 11)) fun t27_10 =>
branch t27_10 (
K (.str [70, 84, 85, 80, 83]) H) (
bnd (abin PP .eql 3 t3 (.int .i64 12)) fun t29_11 =>
branch t29_11 (
K (.str [70, 84, 83]) H) (
bnd (abin PP .eql 3 t3 (.int .i64 14)) fun t31_12 =>
branch t31_12 (
K (.str [70, 69, 78, 73]) H) (
bnd (abin PP .eql 3 t3 (.int .i64 15)) fun t33_13 =>
branch t33_13 (
K (.str [70, 69, 78, 84]) H) (
K (.str [63]) H)))))))
def r_message_Fields : AFn := fun args H K => match args with
| [t0] =>
bnd (abin PP .eql 3 t0 (.int .i64 1)) fun t5_1 =>
branch t5_1 (
K (.str [70, 69, 73]) H) (
bnd (abin PP .eql 3 t0 (.int .i64 2)) fun t7_2 =>
branch t7_2 (
K (.str [70, 84]) H) (
bnd (abin PP .eql 3 t0 (.int .i64 3)) fun t9_3 =>
branch t9_3 (
K (.str [70]) H) (
bnd (abin PP .eql 3 t0 (.int .i64 4)) fun t11_4 =>
branch t11_4 (
K (.str [70, 84, 85, 80]) H) (
bnd (abin PP .eql 3 t0 (.int .i64 5)) fun t13_5 =>
branch t13_5 (
K (.str [70, 73]) H) (
bnd (abin PP .eql 3 t0 (.int .i64 6)) fun t15_6 =>
branch t15_6 (
K (.str []) H) (
bnd (abin PP .eql 3 t0 (.int .i64 7)) fun t17_7 =>
branch t17_7 (
r_message_Fields_p221183 K t0 t17_7 H) (
bnd (abin PP .eql 3 t0 (.int .i64 9)) fun t18_14 =>
branch t18_14 (
r_message_Fields_p221183 K t0 t18_14 H) (
bnd (abin PP .eql 3 t0 (.int .i64 13)) fun t19_15 =>
branch t19_15 (
r_message_Fields_p221183 K t0 t19_15 H) (
bnd (abin PP .eql 3 t0 (.int .i64 16)) fun t20_16 =>
branch t20_16 (
r_message_Fields_p221183 K t0 t20_16 H) (
bnd (abin PP .eql 3 t0 (.int .i64 17)) fun t21_17 =>
r_message_Fields_p221183 K t0 t21_17 H))))))))))
| _ => False
theorem s_message_Fields_p221183 {w0 : World} (hw : Base w0) {K : AV → AH → Prop} : Pt w0 PP F_message_Fields F_message_Fields.ntmps B_message_Fields K 221183 (fun ρ H => r_message_Fields_p221183 K (ρ 3) (ρ 16) H) :=
  Pt.walk_eq (p := [true, true, true, true, true, true, true, true, true, true, true, true, true, false, true, false, true]) (ct := C_message_Fields) (tab := [])
    (C_message_Fields_ok hw) PP_mixed B_message_Fields_ok trivial (by kernel_rfl)
theorem r_message_Fields_ok {w0 : World} (hw : Base w0) : FnOk w0 PP 23 (r_message_Fields) := ⟨⟨F_message_Fields, by kernel_rfl, by kernel_rfl, by kernel_rfl⟩, sound_of_pt (fn := F_message_Fields) (body := B_message_Fields) (n := 1) (by kernel_rfl) (by kernel_rfl)
  (fun args H K h => by unfold r_message_Fields at h; split at h; rfl; exact h.elim) fun K => Pt.walk_eq (p := []) (ct := C_message_Fields) (tab := [(221183, fun ρ H => r_message_Fields_p221183 K (ρ 3) (ρ 16) H)])
    (C_message_Fields_ok hw) PP_mixed B_message_Fields_ok ⟨s_message_Fields_p221183 hw, trivial⟩ (by kernel_rfl)⟩

abbrev k_message_texts : Nat := 40
-- hostler/message.texts
noncomputable abbrev F_message_texts : Func := Go.Proofs.Tryd.f40
noncomputable def B_message_texts : Code := (F_message_texts.body).getD .skip
def C_message_texts : Table := tableOf []
theorem C_message_texts_ok {w0 : World} (hw : Base w0) : (C_message_texts).Ok w0 PP := TableOk.ok (w0 := w0) (P := PP) (l := []) trivial
theorem B_message_texts_ok : codeOk F_message_texts.ntmps B_message_texts = true := by kernel_rfl
def r_message_texts : AFn := fun args H K => match args with
| [t0] =>
bnd (nilck t0) fun t5_1 =>
bnd (aoff 1 t5_1) fun t6_2 =>
bnd (nilck t0) fun t8_3 =>
bnd (aoff 2 t8_3) fun t9_4 =>
bnd (nilck t0) fun t11_5 =>
bnd (aoff 3 t11_5) fun t12_6 =>
(fun (t3_7 : AV) (H_8 : AH) =>
(
bnd (mput (.one .int) t3_7 (.int .i32 70) t6_2 H_8) fun H_9 =>
(
bnd (mput (.one .int) t3_7 (.int .i32 69) t9_4 H_9) fun H_10 =>
bnd (mput (.one .int) t3_7 (.int .i32 84) t12_6 H_10) fun H_11 =>
K t3_7 H_11) ∧ (
bnd (mput (.one .int) t3_7 (.int .i32 84) t12_6 H_9) fun H_12 =>
bnd (mput (.one .int) t3_7 (.int .i32 69) t9_4 H_12) fun H_13 =>
K t3_7 H_13)) ∧ (
(
bnd (mput (.one .int) t3_7 (.int .i32 69) t9_4 H_8) fun H_14 =>
(
bnd (mput (.one .int) t3_7 (.int .i32 70) t6_2 H_14) fun H_15 =>
bnd (mput (.one .int) t3_7 (.int .i32 84) t12_6 H_15) fun H_16 =>
K t3_7 H_16) ∧ (
bnd (mput (.one .int) t3_7 (.int .i32 84) t12_6 H_14) fun H_17 =>
bnd (mput (.one .int) t3_7 (.int .i32 70) t6_2 H_17) fun H_18 =>
K t3_7 H_18)) ∧ (
bnd (mput (.one .int) t3_7 (.int .i32 84) t12_6 H_8) fun H_19 =>
(
bnd (mput (.one .int) t3_7 (.int .i32 70) t6_2 H_19) fun H_20 =>
bnd (mput (.one .int) t3_7 (.int .i32 69) t9_4 H_20) fun H_21 =>
K t3_7 H_21) ∧ (
bnd (mput (.one .int) t3_7 (.int .i32 69) t9_4 H_19) fun H_22 =>
bnd (mput (.one .int) t3_7 (.int .i32 70) t6_2 H_22) fun H_23 =>
K t3_7 H_23)))) (.map H.next) (H.add (.map [] 0))
| _ => False
theorem r_message_texts_ok {w0 : World} (hw : Base w0) : FnOk w0 PP 40 (r_message_texts) := ⟨⟨F_message_texts, by kernel_rfl, by kernel_rfl, by kernel_rfl⟩, sound_of_pt (fn := F_message_texts) (body := B_message_texts) (n := 1) (by kernel_rfl) (by kernel_rfl)
  (fun args H K h => by unfold r_message_texts at h; split at h; rfl; exact h.elim) fun K => Pt.walk_eq (p := []) (ct := C_message_texts) (tab := [])
    (C_message_texts_ok hw) PP_mixed B_message_texts_ok trivial (by kernel_rfl)⟩

abbrev k_message_numbers : Nat := 43
-- hostler/message.numbers
noncomputable abbrev F_message_numbers : Func := Go.Proofs.Tryd.f43
noncomputable def B_message_numbers : Code := (F_message_numbers.body).getD .skip
def C_message_numbers : Table := tableOf []
theorem C_message_numbers_ok {w0 : World} (hw : Base w0) : (C_message_numbers).Ok w0 PP := TableOk.ok (w0 := w0) (P := PP) (l := []) trivial
theorem B_message_numbers_ok : codeOk F_message_numbers.ntmps B_message_numbers = true := by kernel_rfl
def r_message_numbers : AFn := fun args H K => match args with
| [t0] =>
bnd (nilck t0) fun t5_1 =>
bnd (aoff 4 t5_1) fun t6_2 =>
bnd (nilck t0) fun t8_3 =>
bnd (aoff 5 t8_3) fun t9_4 =>
bnd (nilck t0) fun t11_5 =>
bnd (aoff 6 t11_5) fun t12_6 =>
bnd (nilck t0) fun t14_7 =>
bnd (aoff 7 t14_7) fun t15_8 =>
(fun (t3_9 : AV) (H_10 : AH) =>
(
bnd (mput (.one .int) t3_9 (.int .i32 78) t6_2 H_10) fun H_11 =>
(
bnd (mput (.one .int) t3_9 (.int .i32 83) t9_4 H_11) fun H_12 =>
(
bnd (mput (.one .int) t3_9 (.int .i32 85) t12_6 H_12) fun H_13 =>
bnd (mput (.one .int) t3_9 (.int .i32 80) t15_8 H_13) fun H_14 =>
K t3_9 H_14) ∧ (
bnd (mput (.one .int) t3_9 (.int .i32 80) t15_8 H_12) fun H_15 =>
bnd (mput (.one .int) t3_9 (.int .i32 85) t12_6 H_15) fun H_16 =>
K t3_9 H_16)) ∧ (
(
bnd (mput (.one .int) t3_9 (.int .i32 85) t12_6 H_11) fun H_17 =>
(
bnd (mput (.one .int) t3_9 (.int .i32 83) t9_4 H_17) fun H_18 =>
bnd (mput (.one .int) t3_9 (.int .i32 80) t15_8 H_18) fun H_19 =>
K t3_9 H_19) ∧ (
bnd (mput (.one .int) t3_9 (.int .i32 80) t15_8 H_17) fun H_20 =>
bnd (mput (.one .int) t3_9 (.int .i32 83) t9_4 H_20) fun H_21 =>
K t3_9 H_21)) ∧ (
bnd (mput (.one .int) t3_9 (.int .i32 80) t15_8 H_11) fun H_22 =>
(
bnd (mput (.one .int) t3_9 (.int .i32 83) t9_4 H_22) fun H_23 =>
bnd (mput (.one .int) t3_9 (.int .i32 85) t12_6 H_23) fun H_24 =>
K t3_9 H_24) ∧ (
bnd (mput (.one .int) t3_9 (.int .i32 85) t12_6 H_22) fun H_25 =>
bnd (mput (.one .int) t3_9 (.int .i32 83) t9_4 H_25) fun H_26 =>
K t3_9 H_26)))) ∧ (
(
bnd (mput (.one .int) t3_9 (.int .i32 83) t9_4 H_10) fun H_27 =>
(
bnd (mput (.one .int) t3_9 (.int .i32 78) t6_2 H_27) fun H_28 =>
(
bnd (mput (.one .int) t3_9 (.int .i32 85) t12_6 H_28) fun H_29 =>
bnd (mput (.one .int) t3_9 (.int .i32 80) t15_8 H_29) fun H_30 =>
K t3_9 H_30) ∧ (
bnd (mput (.one .int) t3_9 (.int .i32 80) t15_8 H_28) fun H_31 =>
bnd (mput (.one .int) t3_9 (.int .i32 85) t12_6 H_31) fun H_32 =>
K t3_9 H_32)) ∧ (
(
bnd (mput (.one .int) t3_9 (.int .i32 85) t12_6 H_27) fun H_33 =>
(
bnd (mput (.one .int) t3_9 (.int .i32 78) t6_2 H_33) fun H_34 =>
bnd (mput (.one .int) t3_9 (.int .i32 80) t15_8 H_34) fun H_35 =>
K t3_9 H_35) ∧ (
bnd (mput (.one .int) t3_9 (.int .i32 80) t15_8 H_33) fun H_36 =>
bnd (mput (.one .int) t3_9 (.int .i32 78) t6_2 H_36) fun H_37 =>
K t3_9 H_37)) ∧ (
bnd (mput (.one .int) t3_9 (.int .i32 80) t15_8 H_27) fun H_38 =>
(
bnd (mput (.one .int) t3_9 (.int .i32 78) t6_2 H_38) fun H_39 =>
bnd (mput (.one .int) t3_9 (.int .i32 85) t12_6 H_39) fun H_40 =>
K t3_9 H_40) ∧ (
bnd (mput (.one .int) t3_9 (.int .i32 85) t12_6 H_38) fun H_41 =>
bnd (mput (.one .int) t3_9 (.int .i32 78) t6_2 H_41) fun H_42 =>
K t3_9 H_42)))) ∧ (
(
bnd (mput (.one .int) t3_9 (.int .i32 85) t12_6 H_10) fun H_43 =>
(
bnd (mput (.one .int) t3_9 (.int .i32 78) t6_2 H_43) fun H_44 =>
(
bnd (mput (.one .int) t3_9 (.int .i32 83) t9_4 H_44) fun H_45 =>
bnd (mput (.one .int) t3_9 (.int .i32 80) t15_8 H_45) fun H_46 =>
K t3_9 H_46) ∧ (
bnd (mput (.one .int) t3_9 (.int .i32 80) t15_8 H_44) fun H_47 =>
bnd (mput (.one .int) t3_9 (.int .i32 83) t9_4 H_47) fun H_48 =>
K t3_9 H_48)) ∧ (
(
bnd (mput (.one .int) t3_9 (.int .i32 83) t9_4 H_43) fun H_49 =>
(
bnd (mput (.one .int) t3_9 (.int .i32 78) t6_2 H_49) fun H_50 =>
bnd (mput (.one .int) t3_9 (.int .i32 80) t15_8 H_50) fun H_51 =>
K t3_9 H_51) ∧ (
bnd (mput (.one .int) t3_9 (.int .i32 80) t15_8 H_49) fun H_52 =>
bnd (mput (.one .int) t3_9 (.int .i32 78) t6_2 H_52) fun H_53 =>
K t3_9 H_53)) ∧ (
bnd (mput (.one .int) t3_9 (.int .i32 80) t15_8 H_43) fun H_54 =>
(
bnd (mput (.one .int) t3_9 (.int .i32 78) t6_2 H_54) fun H_55 =>
bnd (mput (.one .int) t3_9 (.int .i32 83) t9_4 H_55) fun H_56 =>
K t3_9 H_56) ∧ (
bnd (mput (.one .int) t3_9 (.int .i32 83) t9_4 H_54) fun H_57 =>
bnd (mput (.one .int) t3_9 (.int .i32 78) t6_2 H_57) fun H_58 =>
K t3_9 H_58)))) ∧ (
bnd (mput (.one .int) t3_9 (.int .i32 80) t15_8 H_10) fun H_59 =>
(
bnd (mput (.one .int) t3_9 (.int .i32 78) t6_2 H_59) fun H_60 =>
(
bnd (mput (.one .int) t3_9 (.int .i32 83) t9_4 H_60) fun H_61 =>
bnd (mput (.one .int) t3_9 (.int .i32 85) t12_6 H_61) fun H_62 =>
K t3_9 H_62) ∧ (
bnd (mput (.one .int) t3_9 (.int .i32 85) t12_6 H_60) fun H_63 =>
bnd (mput (.one .int) t3_9 (.int .i32 83) t9_4 H_63) fun H_64 =>
K t3_9 H_64)) ∧ (
(
bnd (mput (.one .int) t3_9 (.int .i32 83) t9_4 H_59) fun H_65 =>
(
bnd (mput (.one .int) t3_9 (.int .i32 78) t6_2 H_65) fun H_66 =>
bnd (mput (.one .int) t3_9 (.int .i32 85) t12_6 H_66) fun H_67 =>
K t3_9 H_67) ∧ (
bnd (mput (.one .int) t3_9 (.int .i32 85) t12_6 H_65) fun H_68 =>
bnd (mput (.one .int) t3_9 (.int .i32 78) t6_2 H_68) fun H_69 =>
K t3_9 H_69)) ∧ (
bnd (mput (.one .int) t3_9 (.int .i32 85) t12_6 H_59) fun H_70 =>
(
bnd (mput (.one .int) t3_9 (.int .i32 78) t6_2 H_70) fun H_71 =>
bnd (mput (.one .int) t3_9 (.int .i32 83) t9_4 H_71) fun H_72 =>
K t3_9 H_72) ∧ (
bnd (mput (.one .int) t3_9 (.int .i32 83) t9_4 H_70) fun H_73 =>
bnd (mput (.one .int) t3_9 (.int .i32 78) t6_2 H_73) fun H_74 =>
K t3_9 H_74))))))) (.map H.next) (H.add (.map [] 0))
| _ => False
theorem r_message_numbers_ok {w0 : World} (hw : Base w0) : FnOk w0 PP 43 (r_message_numbers) := ⟨⟨F_message_numbers, by kernel_rfl, by kernel_rfl, by kernel_rfl⟩, sound_of_pt (fn := F_message_numbers) (body := B_message_numbers) (n := 1) (by kernel_rfl) (by kernel_rfl)
  (fun args H K h => by unfold r_message_numbers at h; split at h; rfl; exact h.elim) fun K => Pt.walk_eq (p := []) (ct := C_message_numbers) (tab := [])
    (C_message_numbers_ok hw) PP_mixed B_message_numbers_ok trivial (by kernel_rfl)⟩

abbrev k_message_holds : Nat := 41
-- hostler/message.holds
noncomputable abbrev F_message_holds : Func := Go.Proofs.Tryd.f41
noncomputable def B_message_holds : Code := (F_message_holds.body).getD .skip
def C_message_holds : Table := tableOf []
theorem C_message_holds_ok {w0 : World} (hw : Base w0) : (C_message_holds).Ok w0 PP := TableOk.ok (w0 := w0) (P := PP) (l := []) trivial
theorem B_message_holds_ok : codeOk F_message_holds.ntmps B_message_holds = true := by kernel_rfl
def r_message_holds_p52 (K : AV → AH → Prop) (Y52 : List AV → AH → Prop) (s : List AV) (H : AH) : Prop := match s with
| [t1, t8] =>
bnd (nextStr t8 H) fun r_2 =>
bnd (aextract r_2.1 0) fun t10_3 =>
branch t10_3 (
bnd (aextract r_2.1 2) fun t11_4 =>
bnd (abin PP .eql 21 t11_4 t1) fun t14_5 =>
branch t14_5 (
K (.bool true) r_2.2) (
Y52 [t1, t8] r_2.2)) (
K (.bool false) r_2.2)
| _ => False
def r_message_holds : AFn := fun args H K => match args with
| [t0, t1] =>
bnd (rangeStr t0 H) fun r_1 =>
LoopP (r_message_holds_p52 K) [t1, r_1.1] r_1.2
| _ => False
theorem s_message_holds_p52 {w0 : World} (hw : Base w0) {K : AV → AH → Prop} : Pt w0 PP F_message_holds F_message_holds.ntmps B_message_holds K 52 (fun ρ H => LoopP (r_message_holds_p52 K) [ρ 1, ρ 8] H) :=
  Pt.loop (st := fun ρ => [ρ 1, ρ 8]) fun Y52 h52 => Pt.walk_eq (p := [false, false, true, false, true]) (ct := C_message_holds) (tab := [(52, fun ρ H => Y52 [ρ 1, ρ 8] H)])
    (C_message_holds_ok hw) PP_mixed B_message_holds_ok ⟨h52, trivial⟩ (by kernel_rfl)
theorem r_message_holds_ok {w0 : World} (hw : Base w0) : FnOk w0 PP 41 (r_message_holds) := ⟨⟨F_message_holds, by kernel_rfl, by kernel_rfl, by kernel_rfl⟩, sound_of_pt (fn := F_message_holds) (body := B_message_holds) (n := 2) (by kernel_rfl) (by kernel_rfl)
  (fun args H K h => by unfold r_message_holds at h; split at h; rfl; exact h.elim) fun K => Pt.walk_eq (p := []) (ct := C_message_holds) (tab := [(52, fun ρ H => LoopP (r_message_holds_p52 K) [ρ 1, ρ 8] H)])
    (C_message_holds_ok hw) PP_mixed B_message_holds_ok ⟨s_message_holds_p52 hw, trivial⟩ (by kernel_rfl)⟩

abbrev k_message_number : Nat := 44
-- hostler/message.number
noncomputable abbrev F_message_number : Func := Go.Proofs.Tryd.f44
noncomputable def B_message_number : Code := (F_message_number.body).getD .skip
def C_message_number : Table := tableOf []
theorem C_message_number_ok {w0 : World} (hw : Base w0) : (C_message_number).Ok w0 PP := TableOk.ok (w0 := w0) (P := PP) (l := []) trivial
theorem B_message_number_ok : codeOk F_message_number.ntmps B_message_number = true := by kernel_rfl
def r_message_number : AFn := fun args H K => match args with
| [t0, t1] =>
bnd (abin PP .eql 21 t0 (.int .i32 83)) fun t6_1 =>
branch t6_1 (
bnd (abin PP .geq 3 t1 (.int .i64 1)) fun t8_2 =>
aguard (gwant true t8_2) (fun k_5 =>
k_5 t1 H) H fun t10_3 H_4 =>
aguard (gwant true t8_2) (fun k_8 =>
bnd (abin PP .leq 3 t10_3 (.int .i64 7)) fun t11_9 =>
k_8 t11_9 H_4) H_4 fun t11_6 H_7 =>
bnd (pickV t8_2 t11_6 (.bool false)) fun t12_10 =>
K t12_10 H_7) (
bnd (abin PP .geq 3 t1 (.int .i64 1)) fun t14_11 =>
aguard (gwant true t14_11) (fun k_14 =>
k_14 t1 H) H fun t16_12 H_13 =>
aguard (gwant true t14_11) (fun k_17 =>
bnd (abin PP .leq 3 t16_12 (.int .i64 2147483647)) fun t17_18 =>
k_17 t17_18 H_13) H_13 fun t17_15 H_16 =>
bnd (pickV t14_11 t17_15 (.bool false)) fun t18_19 =>
K t18_19 H_16)
| _ => False
theorem r_message_number_ok {w0 : World} (hw : Base w0) : FnOk w0 PP 44 (r_message_number) := ⟨⟨F_message_number, by kernel_rfl, by kernel_rfl, by kernel_rfl⟩, sound_of_pt (fn := F_message_number) (body := B_message_number) (n := 2) (by kernel_rfl) (by kernel_rfl)
  (fun args H K h => by unfold r_message_number at h; split at h; rfl; exact h.elim) fun K => Pt.walk_eq (p := []) (ct := C_message_number) (tab := [])
    (C_message_number_ok hw) PP_mixed B_message_number_ok trivial (by kernel_rfl)⟩

abbrev k_name_Right : Nat := 42
-- hostler/name.Right
noncomputable abbrev F_name_Right : Func := Go.Proofs.Tryd.f42
noncomputable def B_name_Right : Code := (F_name_Right.body).getD .skip
def C_name_Right : Table := tableOf [(17, r_strings_Trim)]
theorem C_name_Right_ok {w0 : World} (hw : Base w0) : (C_name_Right).Ok w0 PP := TableOk.ok (w0 := w0) (P := PP) (l := [(17, r_strings_Trim)]) ⟨(r_strings_Trim_ok hw).call, trivial⟩
theorem B_name_Right_ok : codeOk F_name_Right.ntmps B_name_Right = true := by kernel_rfl
def r_name_Right : AFn := fun args H K => match args with
| [t0] =>
bnd (abin PP .neq 9 t0 (.str [])) fun t4_1 =>
aguard (gwant true t4_1) (fun k_4 =>
k_4 t0 H) H fun t6_2 H_3 =>
aguard (gwant true t4_1) (fun k_7 =>
bnd (lenStr t6_2) fun t7_8 =>
k_7 t7_8 H_3) H_3 fun t7_5 H_6 =>
aguard (gwant true t4_1) (fun k_11 =>
bnd (abin PP .leq 3 t7_5 (.int .i64 8)) fun t8_12 =>
k_11 t8_12 H_6) H_6 fun t8_9 H_10 =>
bnd (pickV t4_1 t8_9 (.bool false)) fun t9_13 =>
aguard (gwant true t9_13) (fun k_16 =>
k_16 t0 H_10) H_10 fun t11_14 H_15 =>
aguard (gwant true t9_13) (fun k_19 =>
r_strings_Trim [t11_14, (.str [97, 98, 99, 100, 101, 102, 103, 104, 105, 106, 107, 108, 109, 110, 111, 112, 113, 114, 115, 116, 117, 118, 119, 120, 121, 122, 48, 49, 50, 51, 52, 53, 54, 55, 56, 57])] H_15 fun t12_20 H_21 =>
k_19 t12_20 H_21) H_15 fun t12_17 H_18 =>
aguard (gwant true t9_13) (fun k_24 =>
bnd (abin PP .eql 9 t12_17 (.str [])) fun t13_25 =>
k_24 t13_25 H_18) H_18 fun t13_22 H_23 =>
bnd (pickV t9_13 t13_22 (.bool false)) fun t14_26 =>
K t14_26 H_23
| _ => False
theorem r_name_Right_ok {w0 : World} (hw : Base w0) : FnOk w0 PP 42 (r_name_Right) := ⟨⟨F_name_Right, by kernel_rfl, by kernel_rfl, by kernel_rfl⟩, sound_of_pt (fn := F_name_Right) (body := B_name_Right) (n := 1) (by kernel_rfl) (by kernel_rfl)
  (fun args H K h => by unfold r_name_Right at h; split at h; rfl; exact h.elim) fun K => Pt.walk_eq (p := []) (ct := C_name_Right) (tab := [])
    (C_name_Right_ok hw) PP_mixed B_name_Right_ok trivial (by kernel_rfl)⟩

abbrev k_name_All : Nat := 60
-- hostler/name.All
noncomputable abbrev F_name_All : Func := Go.Proofs.Tryd.f60
noncomputable def B_name_All : Code := (F_name_All.body).getD .skip
def C_name_All : Table := tableOf [(42, r_name_Right)]
theorem C_name_All_ok {w0 : World} (hw : Base w0) : (C_name_All).Ok w0 PP := TableOk.ok (w0 := w0) (P := PP) (l := [(42, r_name_Right)]) ⟨(r_name_Right_ok hw).call, trivial⟩
theorem B_name_All_ok : codeOk F_name_All.ntmps B_name_All = true := by kernel_rfl
def r_name_All_p116 (K : AV → AH → Prop) (Y116 : List AV → AH → Prop) (s : List AV) (H : AH) : Prop := match s with
| [t3, t7, t8, t9] =>
bnd (abin PP .lss 3 t9 t8) fun t10_4 =>
branch t10_4 (
bnd (idxA 1 t7 t9) fun t11_5 =>
bnd (ld1 t11_5 H) fun t12_6 =>
r_name_Right [t12_6] H fun t14_7 H_8 =>
bnd (aun .not t14_7) fun t15_9 =>
aguard (gwant false t15_9) (fun k_12 =>
k_12 t3 H_8) H_8 fun t17_10 H_11 =>
aguard (gwant false t15_9) (fun k_15 =>
k_15 t12_6 H_11) H_11 fun t18_13 H_14 =>
aguard (gwant false t15_9) (fun k_18 =>
bnd (look (.one .str) (.bool false) t17_10 t18_13 false H_14) fun t19_19 =>
k_18 t19_19 H_14) H_14 fun t19_16 H_17 =>
bnd (pickV t15_9 (.bool true) t19_16) fun t20_20 =>
branch t20_20 (
K (.bool false) H_17) (
bnd (mput (.one .str) t3 t12_6 (.bool true) H_17) fun H_21 =>
bnd (abin PP .add 3 t9 (.int .i64 1)) fun t23_22 =>
Y116 [t3, t7, t8, t23_22] H_21)) (
K (.bool true) H)
| _ => False
def r_name_All : AFn := fun args H K => match args with
| [t0] =>
(fun (t6_1 : AV) (H_2 : AH) =>
bnd (lenSl t0) fun t8_3 =>
LoopP (r_name_All_p116 K) [t6_1, t0, t8_3, (.int .i64 0)] H_2) (.map H.next) (H.add (.map [] 0))
| _ => False
theorem s_name_All_p116 {w0 : World} (hw : Base w0) {K : AV → AH → Prop} : Pt w0 PP F_name_All F_name_All.ntmps B_name_All K 116 (fun ρ H => LoopP (r_name_All_p116 K) [ρ 3, ρ 7, ρ 8, ρ 9] H) :=
  Pt.loop (st := fun ρ => [ρ 3, ρ 7, ρ 8, ρ 9]) fun Y116 h116 => Pt.walk_eq (p := [false, false, true, false, true, true]) (ct := C_name_All) (tab := [(116, fun ρ H => Y116 [ρ 3, ρ 7, ρ 8, ρ 9] H)])
    (C_name_All_ok hw) PP_mixed B_name_All_ok ⟨h116, trivial⟩ (by kernel_rfl)
theorem r_name_All_ok {w0 : World} (hw : Base w0) : FnOk w0 PP 60 (r_name_All) := ⟨⟨F_name_All, by kernel_rfl, by kernel_rfl, by kernel_rfl⟩, sound_of_pt (fn := F_name_All) (body := B_name_All) (n := 1) (by kernel_rfl) (by kernel_rfl)
  (fun args H K h => by unfold r_name_All at h; split at h; rfl; exact h.elim) fun K => Pt.walk_eq (p := []) (ct := C_name_All) (tab := [(116, fun ρ H => LoopP (r_name_All_p116 K) [ρ 3, ρ 7, ρ 8, ρ 9] H)])
    (C_name_All_ok hw) PP_mixed B_name_All_ok ⟨s_name_All_p116 hw, trivial⟩ (by kernel_rfl)⟩

abbrev k_message_list_1 : Nat := 62
-- hostler/message.list_1
noncomputable abbrev F_message_list_1 : Func := Go.Proofs.Tryd.f62
noncomputable def B_message_list_1 : Code := (F_message_list_1.body).getD .skip
def C_message_list_1 : Table := tableOf []
theorem C_message_list_1_ok {w0 : World} (hw : Base w0) : (C_message_list_1).Ok w0 PP := TableOk.ok (w0 := w0) (P := PP) (l := []) trivial
theorem B_message_list_1_ok : codeOk F_message_list_1.ntmps B_message_list_1 = true := by kernel_rfl
def r_message_list_1 : AFn := fun args H K => match args with
| [t0] =>
bnd (boxCells t0) fun z_1 =>
(fun (t1_2 : AV) (H_3 : AH) =>
bnd (aoff 1 t1_2) fun t3_4 =>
bnd (ld1 t3_4 H_3) fun t4_5 =>
bnd (abin PP .neq 24 t4_5 (.cplx .f64 0 0)) fun t5_6 =>
K t5_6 H_3) (.ptr H.next 0) (H.add (.cells z_1))
| _ => False
theorem r_message_list_1_ok {w0 : World} (hw : Base w0) : FnOk w0 PP 62 (r_message_list_1) := ⟨⟨F_message_list_1, by kernel_rfl, by kernel_rfl, by kernel_rfl⟩, sound_of_pt (fn := F_message_list_1) (body := B_message_list_1) (n := 1) (by kernel_rfl) (by kernel_rfl)
  (fun args H K h => by unfold r_message_list_1 at h; split at h; rfl; exact h.elim) fun K => Pt.walk_eq (p := []) (ct := C_message_list_1) (tab := [])
    (C_message_list_1_ok hw) PP_mixed B_message_list_1_ok trivial (by kernel_rfl)⟩

abbrev k_message_list_2 : Nat := 63
-- hostler/message.list_2
noncomputable abbrev F_message_list_2 : Func := Go.Proofs.Tryd.f63
noncomputable def B_message_list_2 : Code := (F_message_list_2.body).getD .skip
def C_message_list_2 : Table := tableOf [(64, r_need_Right)]
theorem C_message_list_2_ok {w0 : World} (hw : Base w0) : (C_message_list_2).Ok w0 PP := TableOk.ok (w0 := w0) (P := PP) (l := [(64, r_need_Right)]) ⟨(r_need_Right_ok hw).call, trivial⟩
theorem B_message_list_2_ok : codeOk F_message_list_2.ntmps B_message_list_2 = true := by kernel_rfl
def r_message_list_2 : AFn := fun args H K => match args with
| [t0] =>
bnd (boxCells t0) fun z_1 =>
(fun (t1_2 : AV) (H_3 : AH) =>
bnd (aoff 1 t1_2) fun t3_4 =>
bnd (ld1 t3_4 H_3) fun t4_5 =>
r_need_Right [t4_5] H_3 fun t5_6 H_7 =>
bnd (aun .not t5_6) fun t6_8 =>
K t6_8 H_7) (.ptr H.next 0) (H.add (.cells z_1))
| _ => False
theorem r_message_list_2_ok {w0 : World} (hw : Base w0) : FnOk w0 PP 63 (r_message_list_2) := ⟨⟨F_message_list_2, by kernel_rfl, by kernel_rfl, by kernel_rfl⟩, sound_of_pt (fn := F_message_list_2) (body := B_message_list_2) (n := 1) (by kernel_rfl) (by kernel_rfl)
  (fun args H K h => by unfold r_message_list_2 at h; split at h; rfl; exact h.elim) fun K => Pt.walk_eq (p := []) (ct := C_message_list_2) (tab := [])
    (C_message_list_2_ok hw) PP_mixed B_message_list_2_ok trivial (by kernel_rfl)⟩

abbrev k_message_list : Nat := 46
-- hostler/message.list
noncomputable abbrev F_message_list : Func := Go.Proofs.Tryd.f46
noncomputable def B_message_list : Code := (F_message_list.body).getD .skip
def C_message_list : Table := tableOf [(60, r_name_All), (61, (r_slices_ContainsFunc_api_Item_api_Item (tabL [(62, r_message_list_1), (63, r_message_list_2)])))]
theorem C_message_list_ok {w0 : World} (hw : Base w0) : (C_message_list).Ok w0 PP := TableOk.ok (w0 := w0) (P := PP) (l := [(60, r_name_All), (61, (r_slices_ContainsFunc_api_Item_api_Item (tabL [(62, r_message_list_1), (63, r_message_list_2)])))]) ⟨(r_name_All_ok hw).call, (r_slices_ContainsFunc_api_Item_api_Item_ok hw (TableOk.tab (w0 := w0) (P := PP) (l := [(62, r_message_list_1), (63, r_message_list_2)]) ⟨(r_message_list_1_ok hw).call, (r_message_list_2_ok hw).call, trivial⟩)).call, trivial⟩
theorem B_message_list_ok : codeOk F_message_list.ntmps B_message_list = true := by kernel_rfl
def r_message_list_p116 (K : AV → AH → Prop) (Y116 : List AV → AH → Prop) (s : List AV) (H : AH) : Prop := match s with
| [t0, t1, t5, t8, t9, t10] =>
bnd (abin PP .lss 3 t10 t9) fun t11_2 =>
branch t11_2 (
bnd (idxA 2 t8 t10) fun t12_3 =>
bnd (ldN 2 t12_3 H) fun t13_4 =>
(fun (t7_5 : AV) (H_6 : AH) =>
bnd (ast 2 t7_5 t13_4 H_6) fun H_7 =>
bnd (aoff 0 t7_5) fun t15_8 =>
bnd (ld1 t15_8 H_7) fun t16_9 =>
bnd (buildSl 1 1 [(0, t16_9)]) fun t17_10 =>
appK 1 16 t5 t17_10 H_7 fun t18_11 H_12 =>
bnd (abin PP .add 3 t10 (.int .i64 1)) fun t19_13 =>
Y116 [t0, t1, t18_11, t8, t9, t19_13] H_12) (.ptr H.next 0) (H.add (.cells [.str [], .cplx .f64 0 0]))) (
r_name_All [t5] H fun t21_14 H_15 =>
bnd (aun .not t21_14) fun t22_16 =>
aguard (gwant false t22_16) (fun k_19 =>
k_19 t1 H_15) H_15 fun t24_17 H_18 =>
aguard (gwant false t22_16) (fun k_22 =>
bnd (lenSl t24_17) fun t25_23 =>
k_22 t25_23 H_18) H_18 fun t25_20 H_21 =>
aguard (gwant false t22_16) (fun k_26 =>
bnd (abin PP .gtr 3 t25_20 (.int .i64 4)) fun t26_27 =>
k_26 t26_27 H_21) H_21 fun t26_24 H_25 =>
bnd (pickV t22_16 (.bool true) t26_24) fun t27_28 =>
branch t27_28 (
K (.bool false) H_25) (
bnd (abin PP .eql 3 t0 (.int .i64 5)) fun t29_29 =>
branch t29_29 (
(r_slices_ContainsFunc_api_Item_api_Item (tabL [(62, r_message_list_1), (63, r_message_list_2)])) [t1, (.fn (.func 62) [] [])] H_25 fun t31_30 H_31 =>
bnd (aun .not t31_30) fun t32_32 =>
K t32_32 H_31) (
(r_slices_ContainsFunc_api_Item_api_Item (tabL [(62, r_message_list_1), (63, r_message_list_2)])) [t1, (.fn (.func 63) [] [])] H_25 fun t34_33 H_34 =>
branch t34_33 (
K (.bool false) H_34) (
bnd (lenSl t1) fun t36_35 =>
bnd (abin PP .eql 3 t36_35 (.int .i64 1)) fun t37_36 =>
aguard (gwant false t37_36) (fun k_39 =>
k_39 t0 H_34) H_34 fun t39_37 H_38 =>
aguard (gwant false t37_36) (fun k_42 =>
bnd (abin PP .eql 3 t39_37 (.int .i64 1)) fun t40_43 =>
k_42 t40_43 H_38) H_38 fun t40_40 H_41 =>
aguard (gwant false t37_36) (fun k_46 =>
k_46 t40_40 H_41) H_41 fun t41_44 H_45 =>
aguard (gwant true t41_44) (fun k_49 =>
k_49 t1 H_45) H_45 fun t42_47 H_48 =>
aguard (gwant true t41_44) (fun k_52 =>
bnd (lenSl t42_47) fun t43_53 =>
k_52 t43_53 H_48) H_48 fun t43_50 H_51 =>
aguard (gwant true t41_44) (fun k_56 =>
bnd (abin PP .gtr 3 t43_50 (.int .i64 0)) fun t44_57 =>
k_56 t44_57 H_51) H_51 fun t44_54 H_55 =>
aguard (gwant false t37_36) (fun k_60 =>
bnd (pickV t41_44 t44_54 (.bool false)) fun t45_61 =>
k_60 t45_61 H_55) H_55 fun t45_58 H_59 =>
bnd (pickV t37_36 (.bool true) t45_58) fun t46_62 =>
K t46_62 H_59))))
| _ => False
def r_message_list : AFn := fun args H K => match args with
| [t0, t1] =>
bnd (lenSl t1) fun t9_1 =>
LoopP (r_message_list_p116 K) [t0, t1, (.nils), t1, t9_1, (.int .i64 0)] H
| _ => False
theorem s_message_list_p116 {w0 : World} (hw : Base w0) {K : AV → AH → Prop} : Pt w0 PP F_message_list F_message_list.ntmps B_message_list K 116 (fun ρ H => LoopP (r_message_list_p116 K) [ρ 0, ρ 1, ρ 5, ρ 8, ρ 9, ρ 10] H) :=
  Pt.loop (st := fun ρ => [ρ 0, ρ 1, ρ 5, ρ 8, ρ 9, ρ 10]) fun Y116 h116 => Pt.walk_eq (p := [false, false, true, false, true, true]) (ct := C_message_list) (tab := [(116, fun ρ H => Y116 [ρ 0, ρ 1, ρ 5, ρ 8, ρ 9, ρ 10] H)])
    (C_message_list_ok hw) PP_mixed B_message_list_ok ⟨h116, trivial⟩ (by kernel_rfl)
theorem r_message_list_ok {w0 : World} (hw : Base w0) : FnOk w0 PP 46 (r_message_list) := ⟨⟨F_message_list, by kernel_rfl, by kernel_rfl, by kernel_rfl⟩, sound_of_pt (fn := F_message_list) (body := B_message_list) (n := 2) (by kernel_rfl) (by kernel_rfl)
  (fun args H K h => by unfold r_message_list at h; split at h; rfl; exact h.elim) fun K => Pt.walk_eq (p := []) (ct := C_message_list) (tab := [(116, fun ρ H => LoopP (r_message_list_p116 K) [ρ 0, ρ 1, ρ 5, ρ 8, ρ 9, ρ 10] H)])
    (C_message_list_ok hw) PP_mixed B_message_list_ok ⟨s_message_list_p116 hw, trivial⟩ (by kernel_rfl)⟩

abbrev k_message_Check : Nat := 25
-- hostler/message.Check
noncomputable abbrev F_message_Check : Func := Go.Proofs.Tryd.f25
noncomputable def B_message_Check : Code := (F_message_Check.body).getD .skip
def C_message_Check : Table := tableOf [(23, r_message_Fields), (40, r_message_texts), (41, r_message_holds), (42, r_name_Right), (43, r_message_numbers), (44, r_message_number), (45, r_strings_ContainsRune), (46, r_message_list)]
theorem C_message_Check_ok {w0 : World} (hw : Base w0) : (C_message_Check).Ok w0 PP := TableOk.ok (w0 := w0) (P := PP) (l := [(23, r_message_Fields), (40, r_message_texts), (41, r_message_holds), (42, r_name_Right), (43, r_message_numbers), (44, r_message_number), (45, r_strings_ContainsRune), (46, r_message_list)]) ⟨(r_message_Fields_ok hw).call, (r_message_texts_ok hw).call, (r_message_holds_ok hw).call, (r_name_Right_ok hw).call, (r_message_numbers_ok hw).call, (r_message_number_ok hw).call, (r_strings_ContainsRune_ok hw).call, (r_message_list_ok hw).call, trivial⟩
theorem B_message_Check_ok : codeOk F_message_Check.ntmps B_message_Check = true := by kernel_rfl
def r_message_Check_p500 (K : AV → AH → Prop) (Y500 : List AV → AH → Prop) (s : List AV) (H : AH) : Prop := match s with
| [t1, t3, t45] =>
nextMap t45 H fun t46_74 H_75 =>
bnd (aextract t46_74 0) fun t47_76 =>
branch t47_76 (
bnd (entryOf t45 H_75) fun t48_77 =>
bnd (aextract t48_77 0) fun t49_78 =>
bnd (aextract t48_77 1) fun t50_79 =>
r_message_holds [t3, t49_78] H_75 fun t53_80 H_81 =>
aguard (gwant true t53_80) (fun k_84 =>
k_84 t49_78 H_81) H_81 fun t56_82 H_83 =>
aguard (gwant true t53_80) (fun k_87 =>
k_87 t50_79 H_83) H_83 fun t57_85 H_86 =>
aguard (gwant true t53_80) (fun k_90 =>
bnd (nilck t57_85) fun t58_91 =>
k_90 t58_91 H_86) H_86 fun t58_88 H_89 =>
aguard (gwant true t53_80) (fun k_94 =>
bnd (ld1 t58_88 H_89) fun t59_95 =>
k_94 t59_95 H_89) H_89 fun t59_92 H_93 =>
aguard (gwant true t53_80) (fun k_98 =>
r_message_number [t56_82, t59_92] H_93 fun t60_99 H_100 =>
k_98 t60_99 H_100) H_93 fun t60_96 H_97 =>
aguard (gwant true t53_80) (fun k_103 =>
bnd (aun .not t60_96) fun t61_104 =>
k_103 t61_104 H_97) H_97 fun t61_101 H_102 =>
bnd (pickV t53_80 t61_101 (.bool false)) fun t62_105 =>
aguard (gwant false t62_105) (fun k_108 =>
k_108 t53_80 H_102) H_102 fun t64_106 H_107 =>
aguard (gwant false t62_105) (fun k_111 =>
bnd (aun .not t64_106) fun t65_112 =>
k_111 t65_112 H_107) H_107 fun t65_109 H_110 =>
aguard (gwant false t62_105) (fun k_115 =>
k_115 t65_109 H_110) H_110 fun t66_113 H_114 =>
aguard (gwant true t66_113) (fun k_118 =>
k_118 t50_79 H_114) H_114 fun t67_116 H_117 =>
aguard (gwant true t66_113) (fun k_121 =>
bnd (nilck t67_116) fun t68_122 =>
k_121 t68_122 H_117) H_117 fun t68_119 H_120 =>
aguard (gwant true t66_113) (fun k_125 =>
bnd (ld1 t68_119 H_120) fun t69_126 =>
k_125 t69_126 H_120) H_120 fun t69_123 H_124 =>
aguard (gwant true t66_113) (fun k_129 =>
bnd (abin PP .neq 3 t69_123 (.int .i64 0)) fun t70_130 =>
k_129 t70_130 H_124) H_124 fun t70_127 H_128 =>
aguard (gwant false t62_105) (fun k_133 =>
bnd (pickV t66_113 t70_127 (.bool false)) fun t71_134 =>
k_133 t71_134 H_128) H_128 fun t71_131 H_132 =>
bnd (pickV t62_105 (.bool true) t71_131) fun t72_135 =>
branch t72_135 (
K (.int .i64 1) H_132) (
Y500 [t1, t3, t45] H_132)) (
r_strings_ContainsRune [t3, (.int .i32 73)] H_75 fun t74_136 H_137 =>
aguard (gwant true t74_136) (fun k_140 =>
bnd (aoff 0 t1) fun t77_141 =>
k_140 t77_141 H_137) H_137 fun t77_138 H_139 =>
aguard (gwant true t74_136) (fun k_144 =>
bnd (ld1 t77_138 H_139) fun t78_145 =>
k_144 t78_145 H_139) H_139 fun t78_142 H_143 =>
aguard (gwant true t74_136) (fun k_148 =>
bnd (aoff 8 t1) fun t79_149 =>
k_148 t79_149 H_143) H_143 fun t79_146 H_147 =>
aguard (gwant true t74_136) (fun k_152 =>
bnd (ld1 t79_146 H_147) fun t80_153 =>
k_152 t80_153 H_147) H_147 fun t80_150 H_151 =>
aguard (gwant true t74_136) (fun k_156 =>
r_message_list [t78_142, t80_150] H_151 fun t81_157 H_158 =>
k_156 t81_157 H_158) H_151 fun t81_154 H_155 =>
aguard (gwant true t74_136) (fun k_161 =>
bnd (aun .not t81_154) fun t82_162 =>
k_161 t82_162 H_155) H_155 fun t82_159 H_160 =>
bnd (pickV t74_136 t82_159 (.bool false)) fun t83_163 =>
aguard (gwant false t83_163) (fun k_166 =>
k_166 t74_136 H_160) H_160 fun t85_164 H_165 =>
aguard (gwant false t83_163) (fun k_169 =>
bnd (aun .not t85_164) fun t86_170 =>
k_169 t86_170 H_165) H_165 fun t86_167 H_168 =>
aguard (gwant false t83_163) (fun k_173 =>
k_173 t86_167 H_168) H_168 fun t87_171 H_172 =>
aguard (gwant true t87_171) (fun k_176 =>
bnd (aoff 8 t1) fun t88_177 =>
k_176 t88_177 H_172) H_172 fun t88_174 H_175 =>
aguard (gwant true t87_171) (fun k_180 =>
bnd (ld1 t88_174 H_175) fun t89_181 =>
k_180 t89_181 H_175) H_175 fun t89_178 H_179 =>
aguard (gwant true t87_171) (fun k_184 =>
bnd (lenSl t89_178) fun t90_185 =>
k_184 t90_185 H_179) H_179 fun t90_182 H_183 =>
aguard (gwant true t87_171) (fun k_188 =>
bnd (abin PP .gtr 3 t90_182 (.int .i64 0)) fun t91_189 =>
k_188 t91_189 H_183) H_183 fun t91_186 H_187 =>
aguard (gwant false t83_163) (fun k_192 =>
bnd (pickV t87_171 t91_186 (.bool false)) fun t92_193 =>
k_192 t92_193 H_187) H_187 fun t92_190 H_191 =>
bnd (pickV t83_163 (.bool true) t92_190) fun t93_194 =>
branch t93_194 (
K (.int .i64 1) H_191) (
K (.int .i64 0) H_191))
| _ => False
def r_message_Check_p244 (K : AV → AH → Prop) (Y244 : List AV → AH → Prop) (s : List AV) (H : AH) : Prop := match s with
| [t1, t3, t17] =>
nextMap t17 H fun t18_12 H_13 =>
bnd (aextract t18_12 0) fun t19_14 =>
branch t19_14 (
bnd (entryOf t17 H_13) fun t20_15 =>
bnd (aextract t20_15 0) fun t21_16 =>
bnd (aextract t20_15 1) fun t22_17 =>
r_message_holds [t3, t21_16] H_13 fun t25_18 H_19 =>
aguard (gwant true t25_18) (fun k_22 =>
k_22 t22_17 H_19) H_19 fun t28_20 H_21 =>
aguard (gwant true t25_18) (fun k_25 =>
bnd (nilck t28_20) fun t29_26 =>
k_25 t29_26 H_21) H_21 fun t29_23 H_24 =>
aguard (gwant true t25_18) (fun k_29 =>
bnd (ld1 t29_23 H_24) fun t30_30 =>
k_29 t30_30 H_24) H_24 fun t30_27 H_28 =>
aguard (gwant true t25_18) (fun k_33 =>
r_name_Right [t30_27] H_28 fun t31_34 H_35 =>
k_33 t31_34 H_35) H_28 fun t31_31 H_32 =>
aguard (gwant true t25_18) (fun k_38 =>
bnd (aun .not t31_31) fun t32_39 =>
k_38 t32_39 H_32) H_32 fun t32_36 H_37 =>
bnd (pickV t25_18 t32_36 (.bool false)) fun t33_40 =>
aguard (gwant false t33_40) (fun k_43 =>
k_43 t25_18 H_37) H_37 fun t35_41 H_42 =>
aguard (gwant false t33_40) (fun k_46 =>
bnd (aun .not t35_41) fun t36_47 =>
k_46 t36_47 H_42) H_42 fun t36_44 H_45 =>
aguard (gwant false t33_40) (fun k_50 =>
k_50 t36_44 H_45) H_45 fun t37_48 H_49 =>
aguard (gwant true t37_48) (fun k_53 =>
k_53 t22_17 H_49) H_49 fun t38_51 H_52 =>
aguard (gwant true t37_48) (fun k_56 =>
bnd (nilck t38_51) fun t39_57 =>
k_56 t39_57 H_52) H_52 fun t39_54 H_55 =>
aguard (gwant true t37_48) (fun k_60 =>
bnd (ld1 t39_54 H_55) fun t40_61 =>
k_60 t40_61 H_55) H_55 fun t40_58 H_59 =>
aguard (gwant true t37_48) (fun k_64 =>
bnd (abin PP .neq 9 t40_58 (.str [])) fun t41_65 =>
k_64 t41_65 H_59) H_59 fun t41_62 H_63 =>
aguard (gwant false t33_40) (fun k_68 =>
bnd (pickV t37_48 t41_62 (.bool false)) fun t42_69 =>
k_68 t42_69 H_63) H_63 fun t42_66 H_67 =>
bnd (pickV t33_40 (.bool true) t42_66) fun t43_70 =>
branch t43_70 (
K (.int .i64 1) H_67) (
Y244 [t1, t3, t17] H_67)) (
r_message_numbers [t1] H_13 fun t44_71 H_72 =>
bnd (rangeMap t44_71 H_72) fun r_73 =>
LoopP (r_message_Check_p500 K) [t1, t3, r_73.1] r_73.2)
| _ => False
def r_message_Check : AFn := fun args H K => match args with
| [t0] =>
bnd (boxCells t0) fun z_1 =>
(fun (t1_2 : AV) (H_3 : AH) =>
bnd (aoff 0 t1_2) fun t11_4 =>
bnd (ld1 t11_4 H_3) fun t12_5 =>
r_message_Fields [t12_5] H_3 fun t13_6 H_7 =>
bnd (abin PP .eql 9 t13_6 (.str [63])) fun t15_8 =>
branch t15_8 (
K (.int .i64 1) H_7) (
r_message_texts [t1_2] H_7 fun t16_9 H_10 =>
bnd (rangeMap t16_9 H_10) fun r_11 =>
LoopP (r_message_Check_p244 K) [t1_2, t13_6, r_11.1] r_11.2)) (.ptr H.next 0) (H.add (.cells z_1))
| _ => False
theorem s_message_Check_p500 {w0 : World} (hw : Base w0) {K : AV → AH → Prop} : Pt w0 PP F_message_Check F_message_Check.ntmps B_message_Check K 500 (fun ρ H => LoopP (r_message_Check_p500 K) [ρ 1, ρ 3, ρ 45] H) :=
  Pt.loop (st := fun ρ => [ρ 1, ρ 3, ρ 45]) fun Y500 h500 => Pt.walk_eq (p := [false, false, true, false, true, true, true, true]) (ct := C_message_Check) (tab := [(500, fun ρ H => Y500 [ρ 1, ρ 3, ρ 45] H)])
    (C_message_Check_ok hw) PP_mixed B_message_Check_ok ⟨h500, trivial⟩ (by kernel_rfl)
theorem s_message_Check_p244 {w0 : World} (hw : Base w0) {K : AV → AH → Prop} : Pt w0 PP F_message_Check F_message_Check.ntmps B_message_Check K 244 (fun ρ H => LoopP (r_message_Check_p244 K) [ρ 1, ρ 3, ρ 17] H) :=
  Pt.loop (st := fun ρ => [ρ 1, ρ 3, ρ 17]) fun Y244 h244 => Pt.walk_eq (p := [false, false, true, false, true, true, true]) (ct := C_message_Check) (tab := [(244, fun ρ H => Y244 [ρ 1, ρ 3, ρ 17] H), (500, fun ρ H => LoopP (r_message_Check_p500 K) [ρ 1, ρ 3, ρ 45] H)])
    (C_message_Check_ok hw) PP_mixed B_message_Check_ok ⟨h244, s_message_Check_p500 hw, trivial⟩ (by kernel_rfl)
theorem r_message_Check_ok {w0 : World} (hw : Base w0) : FnOk w0 PP 25 (r_message_Check) := ⟨⟨F_message_Check, by kernel_rfl, by kernel_rfl, by kernel_rfl⟩, sound_of_pt (fn := F_message_Check) (body := B_message_Check) (n := 1) (by kernel_rfl) (by kernel_rfl)
  (fun args H K h => by unfold r_message_Check at h; split at h; rfl; exact h.elim) fun K => Pt.walk_eq (p := []) (ct := C_message_Check) (tab := [(244, fun ρ H => LoopP (r_message_Check_p244 K) [ρ 1, ρ 3, ρ 17] H)])
    (C_message_Check_ok hw) PP_mixed B_message_Check_ok ⟨s_message_Check_p244 hw, trivial⟩ (by kernel_rfl)⟩

abbrev k_hostlerkeep_Within : Nat := 5
-- hostler/hostlerkeep.Within
noncomputable abbrev F_hostlerkeep_Within : Func := Go.Proofs.Tryd.f5
noncomputable def B_hostlerkeep_Within : Code := (F_hostlerkeep_Within.body).getD .skip
def C_hostlerkeep_Within : Table := tableOf []
theorem C_hostlerkeep_Within_ok {w0 : World} (hw : Base w0) : (C_hostlerkeep_Within).Ok w0 PP := TableOk.ok (w0 := w0) (P := PP) (l := []) trivial
theorem B_hostlerkeep_Within_ok : codeOk F_hostlerkeep_Within.ntmps B_hostlerkeep_Within = true := by kernel_rfl
def r_hostlerkeep_Within_p31 (K : AV → AH → Prop) (t5 : AV) (H : AH) : Prop :=
K t5 H
def r_hostlerkeep_Within : AFn := fun args H K => match args with
| [t0, t1] =>
bnd (abin PP .lss 3 t1 (.int .i64 1)) fun t7_1 =>
branch t7_1 (
K (.int .i64 0) H) (
bnd (abin PP .rem 3 t0 t1) fun t10_2 =>
bnd (abin PP .lss 3 t10_2 (.int .i64 0)) fun t12_3 =>
branch t12_3 (
bnd (abin PP .add 3 t10_2 t1) fun t15_4 =>
r_hostlerkeep_Within_p31 K t15_4 H) (
r_hostlerkeep_Within_p31 K t10_2 H))
| _ => False
theorem s_hostlerkeep_Within_p31 {w0 : World} (hw : Base w0) {K : AV → AH → Prop} : Pt w0 PP F_hostlerkeep_Within F_hostlerkeep_Within.ntmps B_hostlerkeep_Within K 31 (fun ρ H => r_hostlerkeep_Within_p31 K (ρ 5) H) :=
  Pt.walk_eq (p := [true, true, true, true]) (ct := C_hostlerkeep_Within) (tab := [])
    (C_hostlerkeep_Within_ok hw) PP_mixed B_hostlerkeep_Within_ok trivial (by kernel_rfl)
theorem r_hostlerkeep_Within_ok {w0 : World} (hw : Base w0) : FnOk w0 PP 5 (r_hostlerkeep_Within) := ⟨⟨F_hostlerkeep_Within, by kernel_rfl, by kernel_rfl, by kernel_rfl⟩, sound_of_pt (fn := F_hostlerkeep_Within) (body := B_hostlerkeep_Within) (n := 2) (by kernel_rfl) (by kernel_rfl)
  (fun args H K h => by unfold r_hostlerkeep_Within at h; split at h; rfl; exact h.elim) fun K => Pt.walk_eq (p := []) (ct := C_hostlerkeep_Within) (tab := [(31, fun ρ H => r_hostlerkeep_Within_p31 K (ρ 5) H)])
    (C_hostlerkeep_Within_ok hw) PP_mixed B_hostlerkeep_Within_ok ⟨s_hostlerkeep_Within_p31 hw, trivial⟩ (by kernel_rfl)⟩

abbrev k_hostlerref01_Same : Nat := 16
-- hostler/hostlerref01.Same
noncomputable abbrev F_hostlerref01_Same : Func := Go.Proofs.Tryd.f16
noncomputable def B_hostlerref01_Same : Code := (F_hostlerref01_Same.body).getD .skip
def C_hostlerref01_Same : Table := tableOf []
theorem C_hostlerref01_Same_ok {w0 : World} (hw : Base w0) : (C_hostlerref01_Same).Ok w0 PP := TableOk.ok (w0 := w0) (P := PP) (l := []) trivial
theorem B_hostlerref01_Same_ok : codeOk F_hostlerref01_Same.ntmps B_hostlerref01_Same = true := by kernel_rfl
def r_hostlerref01_Same_p116 (K : AV → AH → Prop) (Y116 : List AV → AH → Prop) (s : List AV) (H : AH) : Prop := match s with
| [t2, t3, t71, t72] =>
bnd (abin PP .lss 3 t72 t71) fun t73_191 =>
branch t73_191 (
bnd (aoff 8 t2) fun t75_192 =>
bnd (ld1 t75_192 H) fun t76_193 =>
bnd (idxA 2 t76_193 t72) fun t78_194 =>
bnd (ldN 2 t78_194 H) fun t79_195 =>
bnd (aoff 8 t3) fun t80_196 =>
bnd (ld1 t80_196 H) fun t81_197 =>
bnd (idxA 2 t81_197 t72) fun t83_198 =>
bnd (ldN 2 t83_198 H) fun t84_199 =>
bnd (eqAgg .neq [(0, .str), (1, .cplx)] t79_195 t84_199) fun t85_200 =>
branch t85_200 (
K (.bool false) H) (
bnd (abin PP .add 3 t72 (.int .i64 1)) fun t86_201 =>
Y116 [t2, t3, t71, t86_201] H)) (
K (.bool true) H)
| _ => False
def r_hostlerref01_Same : AFn := fun args H K => match args with
| [t0, t1] =>
bnd (boxCells t0) fun z_1 =>
(fun (t2_2 : AV) (H_3 : AH) =>
bnd (boxCells t1) fun z_4 =>
(fun (t3_5 : AV) (H_6 : AH) =>
bnd (aoff 0 t2_2) fun t6_7 =>
bnd (ld1 t6_7 H_6) fun t7_8 =>
bnd (aoff 0 t3_5) fun t8_9 =>
bnd (ld1 t8_9 H_6) fun t9_10 =>
bnd (abin PP .neq 3 t7_8 t9_10) fun t10_11 =>
aguard (gwant false t10_11) (fun k_14 =>
bnd (aoff 1 t2_2) fun t12_15 =>
k_14 t12_15 H_6) H_6 fun t12_12 H_13 =>
aguard (gwant false t10_11) (fun k_18 =>
bnd (ld1 t12_12 H_13) fun t13_19 =>
k_18 t13_19 H_13) H_13 fun t13_16 H_17 =>
aguard (gwant false t10_11) (fun k_22 =>
bnd (aoff 1 t3_5) fun t14_23 =>
k_22 t14_23 H_17) H_17 fun t14_20 H_21 =>
aguard (gwant false t10_11) (fun k_26 =>
bnd (ld1 t14_20 H_21) fun t15_27 =>
k_26 t15_27 H_21) H_21 fun t15_24 H_25 =>
aguard (gwant false t10_11) (fun k_30 =>
bnd (abin PP .neq 9 t13_16 t15_24) fun t16_31 =>
k_30 t16_31 H_25) H_25 fun t16_28 H_29 =>
bnd (pickV t10_11 (.bool true) t16_28) fun t17_32 =>
aguard (gwant false t17_32) (fun k_35 =>
bnd (aoff 2 t2_2) fun t19_36 =>
k_35 t19_36 H_29) H_29 fun t19_33 H_34 =>
aguard (gwant false t17_32) (fun k_39 =>
bnd (ld1 t19_33 H_34) fun t20_40 =>
k_39 t20_40 H_34) H_34 fun t20_37 H_38 =>
aguard (gwant false t17_32) (fun k_43 =>
bnd (aoff 2 t3_5) fun t21_44 =>
k_43 t21_44 H_38) H_38 fun t21_41 H_42 =>
aguard (gwant false t17_32) (fun k_47 =>
bnd (ld1 t21_41 H_42) fun t22_48 =>
k_47 t22_48 H_42) H_42 fun t22_45 H_46 =>
aguard (gwant false t17_32) (fun k_51 =>
bnd (abin PP .neq 9 t20_37 t22_45) fun t23_52 =>
k_51 t23_52 H_46) H_46 fun t23_49 H_50 =>
bnd (pickV t17_32 (.bool true) t23_49) fun t24_53 =>
aguard (gwant false t24_53) (fun k_56 =>
bnd (aoff 3 t2_2) fun t26_57 =>
k_56 t26_57 H_50) H_50 fun t26_54 H_55 =>
aguard (gwant false t24_53) (fun k_60 =>
bnd (ld1 t26_54 H_55) fun t27_61 =>
k_60 t27_61 H_55) H_55 fun t27_58 H_59 =>
aguard (gwant false t24_53) (fun k_64 =>
bnd (aoff 3 t3_5) fun t28_65 =>
k_64 t28_65 H_59) H_59 fun t28_62 H_63 =>
aguard (gwant false t24_53) (fun k_68 =>
bnd (ld1 t28_62 H_63) fun t29_69 =>
k_68 t29_69 H_63) H_63 fun t29_66 H_67 =>
aguard (gwant false t24_53) (fun k_72 =>
bnd (abin PP .neq 9 t27_58 t29_66) fun t30_73 =>
k_72 t30_73 H_67) H_67 fun t30_70 H_71 =>
bnd (pickV t24_53 (.bool true) t30_70) fun t31_74 =>
aguard (gwant false t31_74) (fun k_77 =>
bnd (aoff 4 t2_2) fun t33_78 =>
k_77 t33_78 H_71) H_71 fun t33_75 H_76 =>
aguard (gwant false t31_74) (fun k_81 =>
bnd (ld1 t33_75 H_76) fun t34_82 =>
k_81 t34_82 H_76) H_76 fun t34_79 H_80 =>
aguard (gwant false t31_74) (fun k_85 =>
bnd (aoff 4 t3_5) fun t35_86 =>
k_85 t35_86 H_80) H_80 fun t35_83 H_84 =>
aguard (gwant false t31_74) (fun k_89 =>
bnd (ld1 t35_83 H_84) fun t36_90 =>
k_89 t36_90 H_84) H_84 fun t36_87 H_88 =>
aguard (gwant false t31_74) (fun k_93 =>
bnd (abin PP .neq 3 t34_79 t36_87) fun t37_94 =>
k_93 t37_94 H_88) H_88 fun t37_91 H_92 =>
bnd (pickV t31_74 (.bool true) t37_91) fun t38_95 =>
aguard (gwant false t38_95) (fun k_98 =>
bnd (aoff 5 t2_2) fun t40_99 =>
k_98 t40_99 H_92) H_92 fun t40_96 H_97 =>
aguard (gwant false t38_95) (fun k_102 =>
bnd (ld1 t40_96 H_97) fun t41_103 =>
k_102 t41_103 H_97) H_97 fun t41_100 H_101 =>
aguard (gwant false t38_95) (fun k_106 =>
bnd (aoff 5 t3_5) fun t42_107 =>
k_106 t42_107 H_101) H_101 fun t42_104 H_105 =>
aguard (gwant false t38_95) (fun k_110 =>
bnd (ld1 t42_104 H_105) fun t43_111 =>
k_110 t43_111 H_105) H_105 fun t43_108 H_109 =>
aguard (gwant false t38_95) (fun k_114 =>
bnd (abin PP .neq 3 t41_100 t43_108) fun t44_115 =>
k_114 t44_115 H_109) H_109 fun t44_112 H_113 =>
bnd (pickV t38_95 (.bool true) t44_112) fun t45_116 =>
aguard (gwant false t45_116) (fun k_119 =>
bnd (aoff 6 t2_2) fun t47_120 =>
k_119 t47_120 H_113) H_113 fun t47_117 H_118 =>
aguard (gwant false t45_116) (fun k_123 =>
bnd (ld1 t47_117 H_118) fun t48_124 =>
k_123 t48_124 H_118) H_118 fun t48_121 H_122 =>
aguard (gwant false t45_116) (fun k_127 =>
bnd (aoff 6 t3_5) fun t49_128 =>
k_127 t49_128 H_122) H_122 fun t49_125 H_126 =>
aguard (gwant false t45_116) (fun k_131 =>
bnd (ld1 t49_125 H_126) fun t50_132 =>
k_131 t50_132 H_126) H_126 fun t50_129 H_130 =>
aguard (gwant false t45_116) (fun k_135 =>
bnd (abin PP .neq 3 t48_121 t50_129) fun t51_136 =>
k_135 t51_136 H_130) H_130 fun t51_133 H_134 =>
bnd (pickV t45_116 (.bool true) t51_133) fun t52_137 =>
aguard (gwant false t52_137) (fun k_140 =>
bnd (aoff 7 t2_2) fun t54_141 =>
k_140 t54_141 H_134) H_134 fun t54_138 H_139 =>
aguard (gwant false t52_137) (fun k_144 =>
bnd (ld1 t54_138 H_139) fun t55_145 =>
k_144 t55_145 H_139) H_139 fun t55_142 H_143 =>
aguard (gwant false t52_137) (fun k_148 =>
bnd (aoff 7 t3_5) fun t56_149 =>
k_148 t56_149 H_143) H_143 fun t56_146 H_147 =>
aguard (gwant false t52_137) (fun k_152 =>
bnd (ld1 t56_146 H_147) fun t57_153 =>
k_152 t57_153 H_147) H_147 fun t57_150 H_151 =>
aguard (gwant false t52_137) (fun k_156 =>
bnd (abin PP .neq 3 t55_142 t57_150) fun t58_157 =>
k_156 t58_157 H_151) H_151 fun t58_154 H_155 =>
bnd (pickV t52_137 (.bool true) t58_154) fun t59_158 =>
aguard (gwant false t59_158) (fun k_161 =>
bnd (aoff 8 t2_2) fun t61_162 =>
k_161 t61_162 H_155) H_155 fun t61_159 H_160 =>
aguard (gwant false t59_158) (fun k_165 =>
bnd (ld1 t61_159 H_160) fun t62_166 =>
k_165 t62_166 H_160) H_160 fun t62_163 H_164 =>
aguard (gwant false t59_158) (fun k_169 =>
bnd (lenSl t62_163) fun t63_170 =>
k_169 t63_170 H_164) H_164 fun t63_167 H_168 =>
aguard (gwant false t59_158) (fun k_173 =>
bnd (aoff 8 t3_5) fun t64_174 =>
k_173 t64_174 H_168) H_168 fun t64_171 H_172 =>
aguard (gwant false t59_158) (fun k_177 =>
bnd (ld1 t64_171 H_172) fun t65_178 =>
k_177 t65_178 H_172) H_172 fun t65_175 H_176 =>
aguard (gwant false t59_158) (fun k_181 =>
bnd (lenSl t65_175) fun t66_182 =>
k_181 t66_182 H_176) H_176 fun t66_179 H_180 =>
aguard (gwant false t59_158) (fun k_185 =>
bnd (abin PP .neq 3 t63_167 t66_179) fun t67_186 =>
k_185 t67_186 H_180) H_180 fun t67_183 H_184 =>
bnd (pickV t59_158 (.bool true) t67_183) fun t68_187 =>
branch t68_187 (
K (.bool false) H_184) (
bnd (aoff 8 t2_2) fun t69_188 =>
bnd (ld1 t69_188 H_184) fun t70_189 =>
bnd (lenSl t70_189) fun t71_190 =>
LoopP (r_hostlerref01_Same_p116 K) [t2_2, t3_5, t71_190, (.int .i64 0)] H_184)) (.ptr H_3.next 0) (H_3.add (.cells z_4))) (.ptr H.next 0) (H.add (.cells z_1))
| _ => False
theorem s_hostlerref01_Same_p116 {w0 : World} (hw : Base w0) {K : AV → AH → Prop} : Pt w0 PP F_hostlerref01_Same F_hostlerref01_Same.ntmps B_hostlerref01_Same K 116 (fun ρ H => LoopP (r_hostlerref01_Same_p116 K) [ρ 2, ρ 3, ρ 71, ρ 72] H) :=
  Pt.loop (st := fun ρ => [ρ 2, ρ 3, ρ 71, ρ 72]) fun Y116 h116 => Pt.walk_eq (p := [false, false, true, false, true, true]) (ct := C_hostlerref01_Same) (tab := [(116, fun ρ H => Y116 [ρ 2, ρ 3, ρ 71, ρ 72] H)])
    (C_hostlerref01_Same_ok hw) PP_mixed B_hostlerref01_Same_ok ⟨h116, trivial⟩ (by kernel_rfl)
theorem r_hostlerref01_Same_ok {w0 : World} (hw : Base w0) : FnOk w0 PP 16 (r_hostlerref01_Same) := ⟨⟨F_hostlerref01_Same, by kernel_rfl, by kernel_rfl, by kernel_rfl⟩, sound_of_pt (fn := F_hostlerref01_Same) (body := B_hostlerref01_Same) (n := 2) (by kernel_rfl) (by kernel_rfl)
  (fun args H K h => by unfold r_hostlerref01_Same at h; split at h; rfl; exact h.elim) fun K => Pt.walk_eq (p := []) (ct := C_hostlerref01_Same) (tab := [(116, fun ρ H => LoopP (r_hostlerref01_Same_p116 K) [ρ 2, ρ 3, ρ 71, ρ 72] H)])
    (C_hostlerref01_Same_ok hw) PP_mixed B_hostlerref01_Same_ok ⟨s_hostlerref01_Same_p116 hw, trivial⟩ (by kernel_rfl)⟩

abbrev k_hostlerlaw21_SameStep : Nat := 8
-- hostler/hostlerlaw21.SameStep
noncomputable abbrev F_hostlerlaw21_SameStep : Func := Go.Proofs.Tryd.f8
noncomputable def B_hostlerlaw21_SameStep : Code := (F_hostlerlaw21_SameStep.body).getD .skip
def C_hostlerlaw21_SameStep : Table := tableOf [(16, r_hostlerref01_Same)]
theorem C_hostlerlaw21_SameStep_ok {w0 : World} (hw : Base w0) : (C_hostlerlaw21_SameStep).Ok w0 PP := TableOk.ok (w0 := w0) (P := PP) (l := [(16, r_hostlerref01_Same)]) ⟨(r_hostlerref01_Same_ok hw).call, trivial⟩
theorem B_hostlerlaw21_SameStep_ok : codeOk F_hostlerlaw21_SameStep.ntmps B_hostlerlaw21_SameStep = true := by kernel_rfl
def r_hostlerlaw21_SameStep : AFn := fun args H K => match args with
| [t0, t1] =>
bnd (boxCells t0) fun z_1 =>
(fun (t2_2 : AV) (H_3 : AH) =>
bnd (boxCells t1) fun z_4 =>
(fun (t3_5 : AV) (H_6 : AH) =>
bnd (aoff 0 t2_2) fun t5_7 =>
bnd (ld1 t5_7 H_6) fun t6_8 =>
bnd (aoff 0 t3_5) fun t7_9 =>
bnd (ld1 t7_9 H_6) fun t8_10 =>
bnd (abin PP .eql 3 t6_8 t8_10) fun t9_11 =>
aguard (gwant true t9_11) (fun k_14 =>
bnd (aoff 10 t2_2) fun t11_15 =>
k_14 t11_15 H_6) H_6 fun t11_12 H_13 =>
aguard (gwant true t9_11) (fun k_18 =>
bnd (ld1 t11_12 H_13) fun t12_19 =>
k_18 t12_19 H_13) H_13 fun t12_16 H_17 =>
aguard (gwant true t9_11) (fun k_22 =>
bnd (aoff 10 t3_5) fun t13_23 =>
k_22 t13_23 H_17) H_17 fun t13_20 H_21 =>
aguard (gwant true t9_11) (fun k_26 =>
bnd (ld1 t13_20 H_21) fun t14_27 =>
k_26 t14_27 H_21) H_21 fun t14_24 H_25 =>
aguard (gwant true t9_11) (fun k_30 =>
bnd (abin PP .eql 3 t12_16 t14_24) fun t15_31 =>
k_30 t15_31 H_25) H_25 fun t15_28 H_29 =>
bnd (pickV t9_11 t15_28 (.bool false)) fun t16_32 =>
aguard (gwant true t16_32) (fun k_35 =>
bnd (aoff 11 t2_2) fun t18_36 =>
k_35 t18_36 H_29) H_29 fun t18_33 H_34 =>
aguard (gwant true t16_32) (fun k_39 =>
bnd (ld1 t18_33 H_34) fun t19_40 =>
k_39 t19_40 H_34) H_34 fun t19_37 H_38 =>
aguard (gwant true t16_32) (fun k_43 =>
bnd (aoff 11 t3_5) fun t20_44 =>
k_43 t20_44 H_38) H_38 fun t20_41 H_42 =>
aguard (gwant true t16_32) (fun k_47 =>
bnd (ld1 t20_41 H_42) fun t21_48 =>
k_47 t21_48 H_42) H_42 fun t21_45 H_46 =>
aguard (gwant true t16_32) (fun k_51 =>
bnd (abin PP .eql 3 t19_37 t21_45) fun t22_52 =>
k_51 t22_52 H_46) H_46 fun t22_49 H_50 =>
bnd (pickV t16_32 t22_49 (.bool false)) fun t23_53 =>
aguard (gwant true t23_53) (fun k_56 =>
bnd (aoff 1 t2_2) fun t25_57 =>
k_56 t25_57 H_50) H_50 fun t25_54 H_55 =>
aguard (gwant true t23_53) (fun k_60 =>
bnd (ldN 9 t25_54 H_55) fun t26_61 =>
k_60 t26_61 H_55) H_55 fun t26_58 H_59 =>
aguard (gwant true t23_53) (fun k_64 =>
bnd (aoff 1 t3_5) fun t27_65 =>
k_64 t27_65 H_59) H_59 fun t27_62 H_63 =>
aguard (gwant true t23_53) (fun k_68 =>
bnd (ldN 9 t27_62 H_63) fun t28_69 =>
k_68 t28_69 H_63) H_63 fun t28_66 H_67 =>
aguard (gwant true t23_53) (fun k_72 =>
r_hostlerref01_Same [t26_58, t28_66] H_67 fun t29_73 H_74 =>
k_72 t29_73 H_74) H_67 fun t29_70 H_71 =>
bnd (pickV t23_53 t29_70 (.bool false)) fun t30_75 =>
K t30_75 H_71) (.ptr H_3.next 0) (H_3.add (.cells z_4))) (.ptr H.next 0) (H.add (.cells z_1))
| _ => False
theorem r_hostlerlaw21_SameStep_ok {w0 : World} (hw : Base w0) : FnOk w0 PP 8 (r_hostlerlaw21_SameStep) := ⟨⟨F_hostlerlaw21_SameStep, by kernel_rfl, by kernel_rfl, by kernel_rfl⟩, sound_of_pt (fn := F_hostlerlaw21_SameStep) (body := B_hostlerlaw21_SameStep) (n := 2) (by kernel_rfl) (by kernel_rfl)
  (fun args H K h => by unfold r_hostlerlaw21_SameStep at h; split at h; rfl; exact h.elim) fun K => Pt.walk_eq (p := []) (ct := C_hostlerlaw21_SameStep) (tab := [])
    (C_hostlerlaw21_SameStep_ok hw) PP_mixed B_hostlerlaw21_SameStep_ok trivial (by kernel_rfl)⟩

abbrev k_hostlerlaw21_digits : Nat := 10
-- hostler/hostlerlaw21.digits
noncomputable abbrev F_hostlerlaw21_digits : Func := Go.Proofs.Tryd.f10
noncomputable def B_hostlerlaw21_digits : Code := (F_hostlerlaw21_digits.body).getD .skip
def C_hostlerlaw21_digits (self : AFn) : Table := tableOf [(10, self)]
theorem C_hostlerlaw21_digits_ok {w0 : World} (hw : Base w0) {self : AFn} (hself : FnOk w0 PP 10 self) : (C_hostlerlaw21_digits self).Ok w0 PP := TableOk.ok (w0 := w0) (P := PP) (l := [(10, self)]) ⟨hself.call, trivial⟩
theorem B_hostlerlaw21_digits_ok : codeOk F_hostlerlaw21_digits.ntmps B_hostlerlaw21_digits = true := by kernel_rfl
def b_hostlerlaw21_digits (self : AFn) : AFn := fun args H K => match args with
| [t0] =>
bnd (abin PP .lss 3 t0 (.int .i64 10)) fun t4_1 =>
branch t4_1 (
bnd (sliceStr (.str [48, 49, 50, 51, 52, 53, 54, 55, 56, 57]) (some t0) none none) fun t6_2 =>
bnd (sliceStr t6_2 none (some (.int .i64 1)) none) fun t7_3 =>
K t7_3 H) (
bnd (abin PP .quo 3 t0 (.int .i64 10)) fun t9_4 =>
bnd (abin PP .rem 3 t0 (.int .i64 10)) fun t12_5 =>
bnd (sliceStr (.str [48, 49, 50, 51, 52, 53, 54, 55, 56, 57]) (some t12_5) none none) fun t13_6 =>
bnd (sliceStr t13_6 none (some (.int .i64 1)) none) fun t14_7 =>
self [t9_4] H fun t10_8 H_9 =>
bnd (abin PP .add 9 t10_8 t14_7) fun t15_10 =>
K t15_10 H_9)
| _ => False
theorem b_hostlerlaw21_digits_ok {w0 : World} (hw : Base w0) {self : AFn} (hself : FnOk w0 PP 10 self) : FnOk w0 PP 10 (b_hostlerlaw21_digits self) := ⟨⟨F_hostlerlaw21_digits, by kernel_rfl, by kernel_rfl, by kernel_rfl⟩, sound_of_pt (fn := F_hostlerlaw21_digits) (body := B_hostlerlaw21_digits) (n := 1) (by kernel_rfl) (by kernel_rfl)
  (fun args H K h => by unfold b_hostlerlaw21_digits at h; split at h; rfl; exact h.elim) fun K => Pt.walk_eq (p := []) (ct := C_hostlerlaw21_digits self) (tab := [])
    (C_hostlerlaw21_digits_ok hw hself) PP_mixed B_hostlerlaw21_digits_ok trivial (by kernel_rfl)⟩
def r_hostlerlaw21_digits : AFn := FixP b_hostlerlaw21_digits
theorem r_hostlerlaw21_digits_ok {w0 : World} (hw : Base w0) : FnOk w0 PP 10 r_hostlerlaw21_digits := FnOk.fix ⟨F_hostlerlaw21_digits, by kernel_rfl, by kernel_rfl, by kernel_rfl⟩ fun Y h => b_hostlerlaw21_digits_ok hw h

abbrev k_script_Number : Nat := 11
-- hostler/script.Number
noncomputable abbrev F_script_Number : Func := Go.Proofs.Tryd.f11
noncomputable def B_script_Number : Code := (F_script_Number.body).getD .skip
def C_script_Number : Table := tableOf [(17, r_strings_Trim), (18, r_strconv_Atoi)]
theorem C_script_Number_ok {w0 : World} (hw : Base w0) : (C_script_Number).Ok w0 PP := TableOk.ok (w0 := w0) (P := PP) (l := [(17, r_strings_Trim), (18, r_strconv_Atoi)]) ⟨(r_strings_Trim_ok hw).call, (r_strconv_Atoi_ok hw).call, trivial⟩
theorem B_script_Number_ok : codeOk F_script_Number.ntmps B_script_Number = true := by kernel_rfl
def r_script_Number : AFn := fun args H K => match args with
| [t0] =>
bnd (abin PP .eql 9 t0 (.str [])) fun t7_1 =>
aguard (gwant false t7_1) (fun k_4 =>
k_4 t0 H) H fun t9_2 H_3 =>
aguard (gwant false t7_1) (fun k_7 =>
bnd (lenStr t9_2) fun t10_8 =>
k_7 t10_8 H_3) H_3 fun t10_5 H_6 =>
aguard (gwant false t7_1) (fun k_11 =>
bnd (abin PP .gtr 3 t10_5 (.int .i64 9)) fun t11_12 =>
k_11 t11_12 H_6) H_6 fun t11_9 H_10 =>
bnd (pickV t7_1 (.bool true) t11_9) fun t12_13 =>
aguard (gwant false t12_13) (fun k_16 =>
k_16 t0 H_10) H_10 fun t14_14 H_15 =>
aguard (gwant false t12_13) (fun k_19 =>
r_strings_Trim [t14_14, (.str [48, 49, 50, 51, 52, 53, 54, 55, 56, 57])] H_15 fun t15_20 H_21 =>
k_19 t15_20 H_21) H_15 fun t15_17 H_18 =>
aguard (gwant false t12_13) (fun k_24 =>
bnd (abin PP .neq 9 t15_17 (.str [])) fun t16_25 =>
k_24 t16_25 H_18) H_18 fun t16_22 H_23 =>
bnd (pickV t12_13 (.bool true) t16_22) fun t17_26 =>
aguard (gwant false t17_26) (fun k_29 =>
k_29 t0 H_23) H_23 fun t19_27 H_28 =>
aguard (gwant false t17_26) (fun k_32 =>
bnd (idxStr t19_27 (.int .i64 0)) fun t20_33 =>
k_32 t20_33 H_28) H_28 fun t20_30 H_31 =>
aguard (gwant false t17_26) (fun k_36 =>
bnd (abin PP .eql 5 t20_30 (.int .u8 48)) fun t21_37 =>
k_36 t21_37 H_31) H_31 fun t21_34 H_35 =>
aguard (gwant false t17_26) (fun k_40 =>
k_40 t21_34 H_35) H_35 fun t22_38 H_39 =>
aguard (gwant true t22_38) (fun k_43 =>
k_43 t0 H_39) H_39 fun t23_41 H_42 =>
aguard (gwant true t22_38) (fun k_46 =>
bnd (abin PP .neq 9 t23_41 (.str [48])) fun t24_47 =>
k_46 t24_47 H_42) H_42 fun t24_44 H_45 =>
aguard (gwant false t17_26) (fun k_50 =>
bnd (pickV t22_38 t24_44 (.bool false)) fun t25_51 =>
k_50 t25_51 H_45) H_45 fun t25_48 H_49 =>
bnd (pickV t17_26 (.bool true) t25_48) fun t26_52 =>
branch t26_52 (
K (.tup [(.int .i64 0), (.bool false)]) H_49) (
r_strconv_Atoi [t0] H_49 fun t29_53 H_54 =>
bnd (aextract t29_53 0) fun t30_55 =>
bnd (aextract t29_53 1) fun t31_56 =>
bnd (cmpNil .i .eql t31_56) fun t34_57 =>
K (.tup [t30_55, t34_57]) H_54)
| _ => False
theorem r_script_Number_ok {w0 : World} (hw : Base w0) : FnOk w0 PP 11 (r_script_Number) := ⟨⟨F_script_Number, by kernel_rfl, by kernel_rfl, by kernel_rfl⟩, sound_of_pt (fn := F_script_Number) (body := B_script_Number) (n := 1) (by kernel_rfl) (by kernel_rfl)
  (fun args H K h => by unfold r_script_Number at h; split at h; rfl; exact h.elim) fun K => Pt.walk_eq (p := []) (ct := C_script_Number) (tab := [])
    (C_script_Number_ok hw) PP_mixed B_script_Number_ok trivial (by kernel_rfl)⟩

abbrev k_script_kinds : Nat := 22
-- hostler/script.kinds
noncomputable abbrev F_script_kinds : Func := Go.Proofs.Tryd.f22
noncomputable def B_script_kinds : Code := (F_script_kinds.body).getD .skip
def C_script_kinds : Table := tableOf []
theorem C_script_kinds_ok {w0 : World} (hw : Base w0) : (C_script_kinds).Ok w0 PP := TableOk.ok (w0 := w0) (P := PP) (l := []) trivial
theorem B_script_kinds_ok : codeOk F_script_kinds.ntmps B_script_kinds = true := by kernel_rfl
def r_script_kinds : AFn := fun args H K => match args with
| [] =>
(fun (t1_1 : AV) (H_2 : AH) =>
bnd (mput (.one .str) t1_1 (.str [114, 117, 110]) (.int .i64 1) H_2) fun H_3 =>
bnd (mput (.one .str) t1_1 (.str [107, 105, 108, 108]) (.int .i64 2) H_3) fun H_4 =>
bnd (mput (.one .str) t1_1 (.str [115, 104, 117, 116]) (.int .i64 3) H_4) fun H_5 =>
bnd (mput (.one .str) t1_1 (.str [97, 99, 107]) (.int .i64 4) H_5) fun H_6 =>
bnd (mput (.one .str) t1_1 (.str [97, 115, 107]) (.int .i64 5) H_6) fun H_7 =>
bnd (mput (.one .str) t1_1 (.str [119, 101, 108, 99, 111, 109, 101]) (.int .i64 6) H_7) fun H_8 =>
bnd (mput (.one .str) t1_1 (.str [104, 101, 108, 108, 111]) (.int .i64 7) H_8) fun H_9 =>
bnd (mput (.one .str) t1_1 (.str [114, 101, 112, 111, 114, 116]) (.int .i64 8) H_9) fun H_10 =>
bnd (mput (.one .str) t1_1 (.str [103, 111, 110, 101]) (.int .i64 9) H_10) fun H_11 =>
K t1_1 H_11) (.map H.next) (H.add (.map [] 0))
| _ => False
theorem r_script_kinds_ok {w0 : World} (hw : Base w0) : FnOk w0 PP 22 (r_script_kinds) := ⟨⟨F_script_kinds, by kernel_rfl, by kernel_rfl, by kernel_rfl⟩, sound_of_pt (fn := F_script_kinds) (body := B_script_kinds) (n := 0) (by kernel_rfl) (by kernel_rfl)
  (fun args H K h => by unfold r_script_kinds at h; split at h; rfl; exact h.elim) fun K => Pt.walk_eq (p := []) (ct := C_script_kinds) (tab := [])
    (C_script_kinds_ok hw) PP_mixed B_script_kinds_ok trivial (by kernel_rfl)⟩

abbrev k_script_words_next : Nat := 38
-- (*hostler/script.words).next
noncomputable abbrev F_script_words_next : Func := Go.Proofs.Tryd.f38
noncomputable def B_script_words_next : Code := (F_script_words_next.body).getD .skip
def C_script_words_next : Table := tableOf []
theorem C_script_words_next_ok {w0 : World} (hw : Base w0) : (C_script_words_next).Ok w0 PP := TableOk.ok (w0 := w0) (P := PP) (l := []) trivial
theorem B_script_words_next_ok : codeOk F_script_words_next.ntmps B_script_words_next = true := by kernel_rfl
def r_script_words_next : AFn := fun args H K => match args with
| [t0] =>
bnd (nilck t0) fun t5_1 =>
bnd (aoff 0 t5_1) fun t6_2 =>
bnd (ld1 t6_2 H) fun t7_3 =>
bnd (lenSl t7_3) fun t8_4 =>
bnd (abin PP .eql 3 t8_4 (.int .i64 0)) fun t9_5 =>
branch t9_5 (
bnd (nilck t0) fun t11_6 =>
bnd (aoff 1 t11_6) fun t12_7 =>
bnd (ast 1 t12_7 (.bool true) H) fun H_8 =>
K (.str []) H_8) (
bnd (nilck t0) fun t14_9 =>
bnd (aoff 0 t14_9) fun t15_10 =>
bnd (ld1 t15_10 H) fun t16_11 =>
bnd (idxA 1 t16_11 (.int .i64 0)) fun t17_12 =>
bnd (ld1 t17_12 H) fun t18_13 =>
bnd (nilck t0) fun t21_14 =>
bnd (aoff 0 t21_14) fun t22_15 =>
bnd (ld1 t22_15 H) fun t23_16 =>
bnd (sliceSl 1 t23_16 (some (.int .i64 1)) none none) fun t24_17 =>
bnd (nilck t0) fun t25_18 =>
bnd (aoff 0 t25_18) fun t26_19 =>
bnd (ast 1 t26_19 t24_17 H) fun H_20 =>
K t18_13 H_20)
| _ => False
theorem r_script_words_next_ok {w0 : World} (hw : Base w0) : FnOk w0 PP 38 (r_script_words_next) := ⟨⟨F_script_words_next, by kernel_rfl, by kernel_rfl, by kernel_rfl⟩, sound_of_pt (fn := F_script_words_next) (body := B_script_words_next) (n := 1) (by kernel_rfl) (by kernel_rfl)
  (fun args H K h => by unfold r_script_words_next at h; split at h; rfl; exact h.elim) fun K => Pt.walk_eq (p := []) (ct := C_script_words_next) (tab := [])
    (C_script_words_next_ok hw) PP_mixed B_script_words_next_ok trivial (by kernel_rfl)⟩

abbrev k_script_words_number : Nat := 21
-- (*hostler/script.words).number
noncomputable abbrev F_script_words_number : Func := Go.Proofs.Tryd.f21
noncomputable def B_script_words_number : Code := (F_script_words_number.body).getD .skip
def C_script_words_number : Table := tableOf [(11, r_script_Number), (38, r_script_words_next)]
theorem C_script_words_number_ok {w0 : World} (hw : Base w0) : (C_script_words_number).Ok w0 PP := TableOk.ok (w0 := w0) (P := PP) (l := [(11, r_script_Number), (38, r_script_words_next)]) ⟨(r_script_Number_ok hw).call, (r_script_words_next_ok hw).call, trivial⟩
theorem B_script_words_number_ok : codeOk F_script_words_number.ntmps B_script_words_number = true := by kernel_rfl
def r_script_words_number : AFn := fun args H K => match args with
| [t0] =>
r_script_words_next [t0] H fun t7_1 H_2 =>
r_script_Number [t7_1] H_2 fun t8_3 H_4 =>
bnd (aextract t8_3 0) fun t9_5 =>
bnd (aextract t8_3 1) fun t10_6 =>
bnd (nilck t0) fun t13_7 =>
bnd (aoff 1 t13_7) fun t14_8 =>
bnd (ld1 t14_8 H_4) fun t15_9 =>
aguard (gwant false t15_9) (fun k_12 =>
k_12 t10_6 H_4) H_4 fun t17_10 H_11 =>
aguard (gwant false t15_9) (fun k_15 =>
bnd (aun .not t17_10) fun t18_16 =>
k_15 t18_16 H_11) H_11 fun t18_13 H_14 =>
bnd (pickV t15_9 (.bool true) t18_13) fun t19_17 =>
bnd (nilck t0) fun t20_18 =>
bnd (aoff 1 t20_18) fun t21_19 =>
bnd (ast 1 t21_19 t19_17 H_14) fun H_20 =>
K t9_5 H_20
| _ => False
theorem r_script_words_number_ok {w0 : World} (hw : Base w0) : FnOk w0 PP 21 (r_script_words_number) := ⟨⟨F_script_words_number, by kernel_rfl, by kernel_rfl, by kernel_rfl⟩, sound_of_pt (fn := F_script_words_number) (body := B_script_words_number) (n := 1) (by kernel_rfl) (by kernel_rfl)
  (fun args H K h => by unfold r_script_words_number at h; split at h; rfl; exact h.elim) fun K => Pt.walk_eq (p := []) (ct := C_script_words_number) (tab := [])
    (C_script_words_number_ok hw) PP_mixed B_script_words_number_ok trivial (by kernel_rfl)⟩

abbrev k_script_words_items : Nat := 39
-- (*hostler/script.words).items
noncomputable abbrev F_script_words_items : Func := Go.Proofs.Tryd.f39
noncomputable def B_script_words_items : Code := (F_script_words_items.body).getD .skip
def C_script_words_items : Table := tableOf [(21, r_script_words_number), (38, r_script_words_next), (58, r_need_Of)]
theorem C_script_words_items_ok {w0 : World} (hw : Base w0) : (C_script_words_items).Ok w0 PP := TableOk.ok (w0 := w0) (P := PP) (l := [(21, r_script_words_number), (38, r_script_words_next), (58, r_need_Of)]) ⟨(r_script_words_number_ok hw).call, (r_script_words_next_ok hw).call, (r_need_Of_ok hw).call, trivial⟩
theorem B_script_words_items_ok : codeOk F_script_words_items.ntmps B_script_words_items = true := by kernel_rfl
def r_script_words_items_p907 (K : AV → AH → Prop) (Y56 : List AV → AH → Prop) (t0 : AV) (t1 : AV) (t5 : AV) (t6 : AV) (H : AH) : Prop :=
bnd (ldN 2 t6 H) fun t31_40 =>
bnd (buildSl 2 1 [(0, t31_40)]) fun t32_41 =>
appK 2 32 t5 t32_41 H fun t33_42 H_43 =>
Y56 [t0, t1, t33_42] H_43
def r_script_words_items_p56 (K : AV → AH → Prop) (Y56 : List AV → AH → Prop) (s : List AV) (H : AH) : Prop := match s with
| [t0, t1, t5] =>
bnd (nilck t0) fun t8_1 =>
bnd (aoff 0 t8_1) fun t9_2 =>
bnd (ld1 t9_2 H) fun t10_3 =>
bnd (lenSl t10_3) fun t11_4 =>
bnd (abin PP .gtr 3 t11_4 (.int .i64 0)) fun t12_5 =>
aguard (gwant true t12_5) (fun k_8 =>
k_8 t0 H) H fun t14_6 H_7 =>
aguard (gwant true t12_5) (fun k_11 =>
bnd (nilck t14_6) fun t15_12 =>
k_11 t15_12 H_7) H_7 fun t15_9 H_10 =>
aguard (gwant true t12_5) (fun k_15 =>
bnd (aoff 1 t15_9) fun t16_16 =>
k_15 t16_16 H_10) H_10 fun t16_13 H_14 =>
aguard (gwant true t12_5) (fun k_19 =>
bnd (ld1 t16_13 H_14) fun t17_20 =>
k_19 t17_20 H_14) H_14 fun t17_17 H_18 =>
aguard (gwant true t12_5) (fun k_23 =>
bnd (aun .not t17_17) fun t18_24 =>
k_23 t18_24 H_18) H_18 fun t18_21 H_22 =>
bnd (pickV t12_5 t18_21 (.bool false)) fun t19_25 =>
branch t19_25 (
r_script_words_next [t0] H_22 fun t21_26 H_27 =>
bnd (astruct [(0, 1), (1, 1)] [.str [], .cplx .f64 0 0] [(0, t21_26)]) fun t22_28 =>
(fun (t6_29 : AV) (H_30 : AH) =>
bnd (ast 2 t6_29 t22_28 H_30) fun H_31 =>
branch t1 (
r_script_words_number [t0] H_31 fun t25_32 H_33 =>
r_script_words_number [t0] H_33 fun t27_34 H_35 =>
r_need_Of [t25_32, t27_34] H_35 fun t28_36 H_37 =>
bnd (aoff 1 t6_29) fun t29_38 =>
bnd (ast 1 t29_38 t28_36 H_37) fun H_39 =>
r_script_words_items_p907 K Y56 t0 t1 t5 t6_29 H_39) (
r_script_words_items_p907 K Y56 t0 t1 t5 t6_29 H_31)) (.ptr H_27.next 0) (H_27.add (.cells [.str [], .cplx .f64 0 0]))) (
K t5 H_22)
| _ => False
def r_script_words_items : AFn := fun args H K => match args with
| [t0, t1] =>
LoopP (r_script_words_items_p56 K) [t0, t1, (.nils)] H
| _ => False
theorem s_script_words_items_p907 {w0 : World} (hw : Base w0) {K : AV → AH → Prop} {Y56 : List AV → AH → Prop} (h56 : Pt w0 PP F_script_words_items F_script_words_items.ntmps B_script_words_items K 56 (fun ρ H => Y56 [ρ 0, ρ 1, ρ 5] H)) : Pt w0 PP F_script_words_items F_script_words_items.ntmps B_script_words_items K 907 (fun ρ H => r_script_words_items_p907 K Y56 (ρ 0) (ρ 1) (ρ 5) (ρ 6) H) :=
  Pt.walk_eq (p := [true, true, false, true, false, false, false, true, true]) (ct := C_script_words_items) (tab := [(56, fun ρ H => Y56 [ρ 0, ρ 1, ρ 5] H)])
    (C_script_words_items_ok hw) PP_mixed B_script_words_items_ok ⟨h56, trivial⟩ (by kernel_rfl)
theorem s_script_words_items_p56 {w0 : World} (hw : Base w0) {K : AV → AH → Prop} : Pt w0 PP F_script_words_items F_script_words_items.ntmps B_script_words_items K 56 (fun ρ H => LoopP (r_script_words_items_p56 K) [ρ 0, ρ 1, ρ 5] H) :=
  Pt.loop (st := fun ρ => [ρ 0, ρ 1, ρ 5]) fun Y56 h56 => Pt.walk_eq (p := [false, false, false, true, true]) (ct := C_script_words_items) (tab := [(56, fun ρ H => Y56 [ρ 0, ρ 1, ρ 5] H), (907, fun ρ H => r_script_words_items_p907 K Y56 (ρ 0) (ρ 1) (ρ 5) (ρ 6) H)])
    (C_script_words_items_ok hw) PP_mixed B_script_words_items_ok ⟨h56, s_script_words_items_p907 hw h56, trivial⟩ (by kernel_rfl)
theorem r_script_words_items_ok {w0 : World} (hw : Base w0) : FnOk w0 PP 39 (r_script_words_items) := ⟨⟨F_script_words_items, by kernel_rfl, by kernel_rfl, by kernel_rfl⟩, sound_of_pt (fn := F_script_words_items) (body := B_script_words_items) (n := 2) (by kernel_rfl) (by kernel_rfl)
  (fun args H K h => by unfold r_script_words_items at h; split at h; rfl; exact h.elim) fun K => Pt.walk_eq (p := []) (ct := C_script_words_items) (tab := [(56, fun ρ H => LoopP (r_script_words_items_p56 K) [ρ 0, ρ 1, ρ 5] H)])
    (C_script_words_items_ok hw) PP_mixed B_script_words_items_ok ⟨s_script_words_items_p56 hw, trivial⟩ (by kernel_rfl)⟩

abbrev k_script_words_field : Nat := 24
-- (*hostler/script.words).field
noncomputable abbrev F_script_words_field : Func := Go.Proofs.Tryd.f24
noncomputable def B_script_words_field : Code := (F_script_words_field.body).getD .skip
def C_script_words_field : Table := tableOf [(21, r_script_words_number), (38, r_script_words_next), (39, r_script_words_items)]
theorem C_script_words_field_ok {w0 : World} (hw : Base w0) : (C_script_words_field).Ok w0 PP := TableOk.ok (w0 := w0) (P := PP) (l := [(21, r_script_words_number), (38, r_script_words_next), (39, r_script_words_items)]) ⟨(r_script_words_number_ok hw).call, (r_script_words_next_ok hw).call, (r_script_words_items_ok hw).call, trivial⟩
theorem B_script_words_field_ok : codeOk F_script_words_field.ntmps B_script_words_field = true := by kernel_rfl
def r_script_words_field : AFn := fun args H K => match args with
| [t0, t1, t2] =>
bnd (abin PP .eql 21 t2 (.int .i32 70)) fun t8_1 =>
branch t8_1 (
r_script_words_next [t0] H fun t11_2 H_3 =>
bnd (nilck t1) fun t12_4 =>
bnd (aoff 1 t12_4) fun t13_5 =>
bnd (ast 1 t13_5 t11_2 H_3) fun H_6 =>
K (.tup []) H_6) (
bnd (abin PP .eql 21 t2 (.int .i32 69)) fun t15_7 =>
branch t15_7 (
r_script_words_next [t0] H fun t18_8 H_9 =>
bnd (nilck t1) fun t19_10 =>
bnd (aoff 2 t19_10) fun t20_11 =>
bnd (ast 1 t20_11 t18_8 H_9) fun H_12 =>
K (.tup []) H_12) (
bnd (abin PP .eql 21 t2 (.int .i32 84)) fun t22_13 =>
branch t22_13 (
r_script_words_next [t0] H fun t25_14 H_15 =>
bnd (nilck t1) fun t26_16 =>
bnd (aoff 3 t26_16) fun t27_17 =>
bnd (ast 1 t27_17 t25_14 H_15) fun H_18 =>
K (.tup []) H_18) (
bnd (abin PP .eql 21 t2 (.int .i32 78)) fun t29_19 =>
branch t29_19 (
r_script_words_number [t0] H fun t32_20 H_21 =>
bnd (nilck t1) fun t33_22 =>
bnd (aoff 4 t33_22) fun t34_23 =>
bnd (ast 1 t34_23 t32_20 H_21) fun H_24 =>
K (.tup []) H_24) (
bnd (abin PP .eql 21 t2 (.int .i32 83)) fun t36_25 =>
branch t36_25 (
r_script_words_number [t0] H fun t39_26 H_27 =>
bnd (nilck t1) fun t40_28 =>
bnd (aoff 5 t40_28) fun t41_29 =>
bnd (ast 1 t41_29 t39_26 H_27) fun H_30 =>
K (.tup []) H_30) (
bnd (abin PP .eql 21 t2 (.int .i32 85)) fun t43_31 =>
branch t43_31 (
r_script_words_number [t0] H fun t46_32 H_33 =>
bnd (nilck t1) fun t47_34 =>
bnd (aoff 6 t47_34) fun t48_35 =>
bnd (ast 1 t48_35 t46_32 H_33) fun H_36 =>
K (.tup []) H_36) (
bnd (abin PP .eql 21 t2 (.int .i32 80)) fun t50_37 =>
branch t50_37 (
r_script_words_number [t0] H fun t53_38 H_39 =>
bnd (nilck t1) fun t54_40 =>
bnd (aoff 7 t54_40) fun t55_41 =>
bnd (ast 1 t55_41 t53_38 H_39) fun H_42 =>
K (.tup []) H_42) (
bnd (abin PP .eql 21 t2 (.int .i32 73)) fun t57_43 =>
branch t57_43 (
bnd (nilck t1) fun t61_44 =>
bnd (aoff 0 t61_44) fun t62_45 =>
bnd (ld1 t62_45 H) fun t63_46 =>
bnd (abin PP .eql 3 t63_46 (.int .i64 1)) fun t64_47 =>
r_script_words_items [t0, t64_47] H fun t65_48 H_49 =>
bnd (nilck t1) fun t66_50 =>
bnd (aoff 8 t66_50) fun t67_51 =>
bnd (ast 1 t67_51 t65_48 H_49) fun H_52 =>
K (.tup []) H_52) (
K (.tup []) H))))))))
| _ => False
theorem r_script_words_field_ok {w0 : World} (hw : Base w0) : FnOk w0 PP 24 (r_script_words_field) := ⟨⟨F_script_words_field, by kernel_rfl, by kernel_rfl, by kernel_rfl⟩, sound_of_pt (fn := F_script_words_field) (body := B_script_words_field) (n := 3) (by kernel_rfl) (by kernel_rfl)
  (fun args H K h => by unfold r_script_words_field at h; split at h; rfl; exact h.elim) fun K => Pt.walk_eq (p := []) (ct := C_script_words_field) (tab := [])
    (C_script_words_field_ok hw) PP_mixed B_script_words_field_ok trivial (by kernel_rfl)⟩

abbrev k_script_step : Nat := 15
-- hostler/script.step
noncomputable abbrev F_script_step : Func := Go.Proofs.Tryd.f15
noncomputable def B_script_step : Code := (F_script_step.body).getD .skip
def C_script_step : Table := tableOf [(21, r_script_words_number), (22, r_script_kinds), (23, r_message_Fields), (24, r_script_words_field), (25, r_message_Check)]
theorem C_script_step_ok {w0 : World} (hw : Base w0) : (C_script_step).Ok w0 PP := TableOk.ok (w0 := w0) (P := PP) (l := [(21, r_script_words_number), (22, r_script_kinds), (23, r_message_Fields), (24, r_script_words_field), (25, r_message_Check)]) ⟨(r_script_words_number_ok hw).call, (r_script_kinds_ok hw).call, (r_message_Fields_ok hw).call, (r_script_words_field_ok hw).call, (r_message_Check_ok hw).call, trivial⟩
theorem B_script_step_ok : codeOk F_script_step.ntmps B_script_step = true := by kernel_rfl
def r_script_step_p15099 (K : AV → AH → Prop) (t2 : AV) (t4 : AV) (t7 : AV) (H : AH) : Prop :=
bnd (ldN 12 t7 H) fun t72_94 =>
bnd (nilck t4) fun t74_95 =>
bnd (aoff 1 t74_95) fun t75_96 =>
bnd (ld1 t75_96 H) fun t76_97 =>
bnd (aun .not t76_97) fun t77_98 =>
aguard (gwant true t77_98) (fun k_100 =>
k_100 t4 H) H fun t79_99 _ =>
aguard (gwant true t77_98) (fun k_102 =>
bnd (nilck t79_99) fun t80_103 =>
k_102 t80_103 H) H fun t80_101 _ =>
aguard (gwant true t77_98) (fun k_105 =>
bnd (aoff 0 t80_101) fun t81_106 =>
k_105 t81_106 H) H fun t81_104 _ =>
aguard (gwant true t77_98) (fun k_108 =>
bnd (ld1 t81_104 H) fun t82_109 =>
k_108 t82_109 H) H fun t82_107 _ =>
aguard (gwant true t77_98) (fun k_111 =>
bnd (lenSl t82_107) fun t83_112 =>
k_111 t83_112 H) H fun t83_110 _ =>
aguard (gwant true t77_98) (fun k_114 =>
bnd (abin PP .eql 3 t83_110 (.int .i64 0)) fun t84_115 =>
k_114 t84_115 H) H fun t84_113 _ =>
bnd (pickV t77_98 t84_113 (.bool false)) fun t85_116 =>
bnd (ast 12 t2 t72_94 H) fun H_117 =>
(wantE (gwant true t77_98) ((ld1 t81_104 H_117) = some t82_107)) ∧ (
(wantE (gwant true t77_98) ((lenSl t82_107) = some t83_110)) ∧ (
bnd (ldN 12 t2 H_117) fun v_118 =>
K (.tup [v_118, t85_116]) H_117))
def r_script_step_p2036 (K : AV → AH → Prop) (Y2036 : List AV → AH → Prop) (s : List AV) (H : AH) : Prop := match s with
| [t2, t4, t10, t102] =>
bnd (nextStr t102 H) fun r_140 =>
bnd (aextract r_140.1 0) fun t104_141 =>
branch t104_141 (
bnd (aextract r_140.1 2) fun t105_142 =>
bnd (aoff 1 t10) fun t107_143 =>
r_script_words_field [t4, t107_143, t105_142] r_140.2 fun t109_144 H_145 =>
Y2036 [t2, t4, t10, t102] H_145) (
bnd (ldN 12 t10 r_140.2) fun t110_146 =>
bnd (nilck t4) fun t112_147 =>
bnd (aoff 1 t112_147) fun t113_148 =>
bnd (ld1 t113_148 r_140.2) fun t114_149 =>
bnd (aun .not t114_149) fun t115_150 =>
aguard (gwant true t115_150) (fun k_152 =>
k_152 t4 r_140.2) r_140.2 fun t117_151 _ =>
aguard (gwant true t115_150) (fun k_154 =>
bnd (nilck t117_151) fun t118_155 =>
k_154 t118_155 r_140.2) r_140.2 fun t118_153 _ =>
aguard (gwant true t115_150) (fun k_157 =>
bnd (aoff 0 t118_153) fun t119_158 =>
k_157 t119_158 r_140.2) r_140.2 fun t119_156 _ =>
aguard (gwant true t115_150) (fun k_160 =>
bnd (ld1 t119_156 r_140.2) fun t120_161 =>
k_160 t120_161 r_140.2) r_140.2 fun t120_159 _ =>
aguard (gwant true t115_150) (fun k_163 =>
bnd (lenSl t120_159) fun t121_164 =>
k_163 t121_164 r_140.2) r_140.2 fun t121_162 _ =>
aguard (gwant true t115_150) (fun k_166 =>
bnd (abin PP .eql 3 t121_162 (.int .i64 0)) fun t122_167 =>
k_166 t122_167 r_140.2) r_140.2 fun t122_165 _ =>
bnd (pickV t115_150 t122_165 (.bool false)) fun t123_168 =>
aguard (gwant true t123_168) (fun k_170 =>
bnd (aoff 1 t10) fun t125_171 =>
k_170 t125_171 r_140.2) r_140.2 fun t125_169 _ =>
aguard (gwant true t123_168) (fun k_173 =>
bnd (ldN 9 t125_169 r_140.2) fun t126_174 =>
k_173 t126_174 r_140.2) r_140.2 fun t126_172 _ =>
aguard (gwant true t123_168) (fun k_177 =>
r_message_Check [t126_172] r_140.2 fun t127_178 H_179 =>
k_177 t127_178 H_179) r_140.2 fun t127_175 H_176 =>
((ldN 12 t10 H_176) = some t110_146) ∧ (
aguard (gwant true t123_168) (fun k_181 =>
bnd (abin PP .eql 36 t127_175 (.int .i64 0)) fun t128_182 =>
k_181 t128_182 H_176) H_176 fun t128_180 _ =>
bnd (pickV t123_168 t128_180 (.bool false)) fun t129_183 =>
bnd (ast 12 t2 t110_146 H_176) fun H_184 =>
bnd (ldN 12 t2 H_184) fun v_185 =>
K (.tup [v_185, t129_183]) H_184))
| _ => False
def r_script_step : AFn := fun args H K => match args with
| [t0] =>
(fun (t2_1 : AV) (H_2 : AH) =>
bnd (sliceSl 1 t0 (some (.int .i64 1)) none none) fun t14_3 =>
bnd (astruct [(0, 1), (1, 1)] [.nils, .bool false] [(0, t14_3)]) fun t15_4 =>
bnd (boxCells t15_4) fun z_5 =>
(fun (t16_6 : AV) (H_7 : AH) =>
bnd (idxA 1 t0 (.int .i64 0)) fun t18_8 =>
bnd (ld1 t18_8 H_7) fun t19_9 =>
bnd (abin PP .eql 9 t19_9 (.str [116, 105, 99, 107])) fun t21_10 =>
branch t21_10 (
r_script_words_number [t16_6] H_7 fun t23_11 H_12 =>
bnd (astruct [(0, 1), (1, 9), (10, 1), (11, 1)] [.int .i64 0, .int .i64 0, .str [], .str [], .str [], .int .i64 0, .int .i64 0, .int .i64 0, .int .i64 0, .nils, .int .i64 0, .int .i64 0] [(0, (.int .i64 2)), (2, t23_11)]) fun t24_13 =>
(fun (t5_14 : AV) (H_15 : AH) =>
bnd (ast 12 t5_14 t24_13 H_15) fun H_16 =>
bnd (ldN 12 t5_14 H_16) fun t25_17 =>
bnd (nilck t16_6) fun t27_18 =>
bnd (aoff 1 t27_18) fun t28_19 =>
bnd (ld1 t28_19 H_16) fun t29_20 =>
bnd (aun .not t29_20) fun t30_21 =>
aguard (gwant true t30_21) (fun k_23 =>
k_23 t16_6 H_16) H_16 fun t32_22 _ =>
aguard (gwant true t30_21) (fun k_25 =>
bnd (nilck t32_22) fun t33_26 =>
k_25 t33_26 H_16) H_16 fun t33_24 _ =>
aguard (gwant true t30_21) (fun k_28 =>
bnd (aoff 0 t33_24) fun t34_29 =>
k_28 t34_29 H_16) H_16 fun t34_27 _ =>
aguard (gwant true t30_21) (fun k_31 =>
bnd (ld1 t34_27 H_16) fun t35_32 =>
k_31 t35_32 H_16) H_16 fun t35_30 _ =>
aguard (gwant true t30_21) (fun k_34 =>
bnd (lenSl t35_30) fun t36_35 =>
k_34 t36_35 H_16) H_16 fun t36_33 _ =>
aguard (gwant true t30_21) (fun k_37 =>
bnd (abin PP .eql 3 t36_33 (.int .i64 0)) fun t37_38 =>
k_37 t37_38 H_16) H_16 fun t37_36 _ =>
bnd (pickV t30_21 t37_36 (.bool false)) fun t38_39 =>
bnd (ast 12 t2_1 t25_17 H_16) fun H_40 =>
(wantE (gwant true t30_21) ((ld1 t34_27 H_40) = some t35_30)) ∧ (
(wantE (gwant true t30_21) ((lenSl t35_30) = some t36_33)) ∧ (
bnd (ldN 12 t2_1 H_40) fun v_41 =>
K (.tup [v_41, t38_39]) H_40))) (.ptr H_12.next 0) (H_12.add (.cells [.int .i64 0, .int .i64 0, .str [], .str [], .str [], .int .i64 0, .int .i64 0, .int .i64 0, .int .i64 0, .nils, .int .i64 0, .int .i64 0]))) (
bnd (abin PP .eql 9 t19_9 (.str [102, 117, 115, 101])) fun t40_44 =>
branch t40_44 (
r_script_words_number [t16_6] H_7 fun t42_45 H_46 =>
bnd (astruct [(0, 1), (1, 9), (10, 1), (11, 1)] [.int .i64 0, .int .i64 0, .str [], .str [], .str [], .int .i64 0, .int .i64 0, .int .i64 0, .int .i64 0, .nils, .int .i64 0, .int .i64 0] [(0, (.int .i64 3)), (2, t42_45)]) fun t43_47 =>
(fun (t6_48 : AV) (H_49 : AH) =>
bnd (ast 12 t6_48 t43_47 H_49) fun H_50 =>
bnd (ldN 12 t6_48 H_50) fun t44_51 =>
bnd (nilck t16_6) fun t46_52 =>
bnd (aoff 1 t46_52) fun t47_53 =>
bnd (ld1 t47_53 H_50) fun t48_54 =>
bnd (aun .not t48_54) fun t49_55 =>
aguard (gwant true t49_55) (fun k_57 =>
k_57 t16_6 H_50) H_50 fun t51_56 _ =>
aguard (gwant true t49_55) (fun k_59 =>
bnd (nilck t51_56) fun t52_60 =>
k_59 t52_60 H_50) H_50 fun t52_58 _ =>
aguard (gwant true t49_55) (fun k_62 =>
bnd (aoff 0 t52_58) fun t53_63 =>
k_62 t53_63 H_50) H_50 fun t53_61 _ =>
aguard (gwant true t49_55) (fun k_65 =>
bnd (ld1 t53_61 H_50) fun t54_66 =>
k_65 t54_66 H_50) H_50 fun t54_64 _ =>
aguard (gwant true t49_55) (fun k_68 =>
bnd (lenSl t54_64) fun t55_69 =>
k_68 t55_69 H_50) H_50 fun t55_67 _ =>
aguard (gwant true t49_55) (fun k_71 =>
bnd (abin PP .eql 3 t55_67 (.int .i64 0)) fun t56_72 =>
k_71 t56_72 H_50) H_50 fun t56_70 _ =>
bnd (pickV t49_55 t56_70 (.bool false)) fun t57_73 =>
bnd (ast 12 t2_1 t44_51 H_50) fun H_74 =>
(wantE (gwant true t49_55) ((ld1 t53_61 H_74) = some t54_64)) ∧ (
(wantE (gwant true t49_55) ((lenSl t54_64) = some t55_67)) ∧ (
bnd (ldN 12 t2_1 H_74) fun v_75 =>
K (.tup [v_75, t57_73]) H_74))) (.ptr H_46.next 0) (H_46.add (.cells [.int .i64 0, .int .i64 0, .str [], .str [], .str [], .int .i64 0, .int .i64 0, .int .i64 0, .int .i64 0, .nils, .int .i64 0, .int .i64 0]))) (
bnd (abin PP .eql 9 t19_9 (.str [99, 114, 97, 115, 104])) fun t59_78 =>
branch t59_78 (
r_script_words_number [t16_6] H_7 fun t61_79 H_80 =>
bnd (astruct [(0, 1), (1, 9), (10, 1), (11, 1)] [.int .i64 0, .int .i64 0, .str [], .str [], .str [], .int .i64 0, .int .i64 0, .int .i64 0, .int .i64 0, .nils, .int .i64 0, .int .i64 0] [(0, (.int .i64 4)), (2, t61_79), (3, (.int .i64 (-1)))]) fun t62_81 =>
(fun (t7_82 : AV) (H_83 : AH) =>
bnd (ast 12 t7_82 t62_81 H_83) fun H_84 =>
bnd (nilck t16_6) fun t64_85 =>
bnd (aoff 0 t64_85) fun t65_86 =>
bnd (ld1 t65_86 H_84) fun t66_87 =>
bnd (lenSl t66_87) fun t67_88 =>
bnd (abin PP .gtr 3 t67_88 (.int .i64 0)) fun t68_89 =>
branch t68_89 (
r_script_words_number [t16_6] H_84 fun t70_90 H_91 =>
bnd (aoff 11 t7_82) fun t71_92 =>
bnd (ast 1 t71_92 t70_90 H_91) fun H_93 =>
r_script_step_p15099 K t2_1 t16_6 t7_82 H_93) (
r_script_step_p15099 K t2_1 t16_6 t7_82 H_84)) (.ptr H_80.next 0) (H_80.add (.cells [.int .i64 0, .int .i64 0, .str [], .str [], .str [], .int .i64 0, .int .i64 0, .int .i64 0, .int .i64 0, .nils, .int .i64 0, .int .i64 0]))) (
bnd (idxA 1 t0 (.int .i64 0)) fun t89_121 =>
bnd (ld1 t89_121 H_7) fun t90_122 =>
r_script_kinds [] H_7 fun t87_123 H_124 =>
((ld1 t89_121 H_124) = some t90_122) ∧ (
bnd (look (.one .str) (.int .i64 0) t87_123 t90_122 true H_124) fun t91_125 =>
bnd (aextract t91_125 0) fun t92_126 =>
bnd (aextract t91_125 1) fun t93_127 =>
bnd (aun .not t93_127) fun t95_128 =>
branch t95_128 (
bnd (astruct [(0, 1), (1, 9), (10, 1), (11, 1)] [.int .i64 0, .int .i64 0, .str [], .str [], .str [], .int .i64 0, .int .i64 0, .int .i64 0, .int .i64 0, .nils, .int .i64 0, .int .i64 0] []) fun t96_129 =>
bnd (ast 12 t2_1 t96_129 H_124) fun H_130 =>
bnd (ldN 12 t2_1 H_130) fun v_131 =>
K (.tup [v_131, (.bool false)]) H_130) (
bnd (astruct [(0, 1), (1, 1), (2, 1), (3, 1), (4, 1), (5, 1), (6, 1), (7, 1), (8, 1)] [.int .i64 0, .str [], .str [], .str [], .int .i64 0, .int .i64 0, .int .i64 0, .int .i64 0, .nils] [(0, t92_126)]) fun t98_132 =>
bnd (astruct [(0, 1), (1, 9), (10, 1), (11, 1)] [.int .i64 0, .int .i64 0, .str [], .str [], .str [], .int .i64 0, .int .i64 0, .int .i64 0, .int .i64 0, .nils, .int .i64 0, .int .i64 0] [(0, (.int .i64 1)), (1, t98_132)]) fun t99_133 =>
(fun (t10_134 : AV) (H_135 : AH) =>
bnd (ast 12 t10_134 t99_133 H_135) fun H_136 =>
r_message_Fields [t92_126] H_136 fun t101_137 H_138 =>
bnd (rangeStr t101_137 H_138) fun r_139 =>
LoopP (r_script_step_p2036 K) [t2_1, t16_6, t10_134, r_139.1] r_139.2) (.ptr H_124.next 0) (H_124.add (.cells [.int .i64 0, .int .i64 0, .str [], .str [], .str [], .int .i64 0, .int .i64 0, .int .i64 0, .int .i64 0, .nils, .int .i64 0, .int .i64 0])))))))) (.ptr H_2.next 0) (H_2.add (.cells z_5))) (.ptr H.next 0) (H.add (.cells [.int .i64 0, .int .i64 0, .str [], .str [], .str [], .int .i64 0, .int .i64 0, .int .i64 0, .int .i64 0, .nils, .int .i64 0, .int .i64 0]))
| _ => False
theorem s_script_step_p15099 {w0 : World} (hw : Base w0) {K : AV → AH → Prop} : Pt w0 PP F_script_step F_script_step.ntmps B_script_step K 15099 (fun ρ H => r_script_step_p15099 K (ρ 2) (ρ 4) (ρ 7) H) :=
  Pt.walk_eq (p := [true, true, false, true, true, true, true, true, false, true, false, true, true]) (ct := C_script_step) (tab := [])
    (C_script_step_ok hw) PP_mixed B_script_step_ok trivial (by kernel_rfl)
theorem s_script_step_p2036 {w0 : World} (hw : Base w0) {K : AV → AH → Prop} : Pt w0 PP F_script_step F_script_step.ntmps B_script_step K 2036 (fun ρ H => LoopP (r_script_step_p2036 K) [ρ 2, ρ 4, ρ 10, ρ 102] H) :=
  Pt.loop (st := fun ρ => [ρ 2, ρ 4, ρ 10, ρ 102]) fun Y2036 h2036 => Pt.walk_eq (p := [false, false, true, false, true, true, true, true, true, true]) (ct := C_script_step) (tab := [(2036, fun ρ H => Y2036 [ρ 2, ρ 4, ρ 10, ρ 102] H)])
    (C_script_step_ok hw) PP_mixed B_script_step_ok ⟨h2036, trivial⟩ (by kernel_rfl)
theorem r_script_step_ok {w0 : World} (hw : Base w0) : FnOk w0 PP 15 (r_script_step) := ⟨⟨F_script_step, by kernel_rfl, by kernel_rfl, by kernel_rfl⟩, sound_of_pt (fn := F_script_step) (body := B_script_step) (n := 1) (by kernel_rfl) (by kernel_rfl)
  (fun args H K h => by unfold r_script_step at h; split at h; rfl; exact h.elim) fun K => Pt.walk_eq (p := []) (ct := C_script_step) (tab := [(2036, fun ρ H => LoopP (r_script_step_p2036 K) [ρ 2, ρ 4, ρ 10, ρ 102] H), (15099, fun ρ H => r_script_step_p15099 K (ρ 2) (ρ 4) (ρ 7) H)])
    (C_script_step_ok hw) PP_mixed B_script_step_ok ⟨s_script_step_p2036 hw, s_script_step_p15099 hw, trivial⟩ (by kernel_rfl)⟩

abbrev k_script_Parse_1 : Nat := 14
-- hostler/script.Parse_1
noncomputable abbrev F_script_Parse_1 : Func := Go.Proofs.Tryd.f14
noncomputable def B_script_Parse_1 : Code := (F_script_Parse_1.body).getD .skip
def C_script_Parse_1 : Table := tableOf []
theorem C_script_Parse_1_ok {w0 : World} (hw : Base w0) : (C_script_Parse_1).Ok w0 PP := TableOk.ok (w0 := w0) (P := PP) (l := []) trivial
theorem B_script_Parse_1_ok : codeOk F_script_Parse_1.ntmps B_script_Parse_1 = true := by kernel_rfl
def r_script_Parse_1 : AFn := fun args H K => match args with
| [t0] =>
bnd (abin PP .eql 9 t0 (.str [])) fun t4_1 =>
K t4_1 H
| _ => False
theorem r_script_Parse_1_ok {w0 : World} (hw : Base w0) : FnOk w0 PP 14 (r_script_Parse_1) := ⟨⟨F_script_Parse_1, by kernel_rfl, by kernel_rfl, by kernel_rfl⟩, sound_of_pt (fn := F_script_Parse_1) (body := B_script_Parse_1) (n := 1) (by kernel_rfl) (by kernel_rfl)
  (fun args H K h => by unfold r_script_Parse_1 at h; split at h; rfl; exact h.elim) fun K => Pt.walk_eq (p := []) (ct := C_script_Parse_1) (tab := [])
    (C_script_Parse_1_ok hw) PP_mixed B_script_Parse_1_ok trivial (by kernel_rfl)⟩

abbrev k_script_Parse : Nat := 7
-- hostler/script.Parse
noncomputable abbrev F_script_Parse : Func := Go.Proofs.Tryd.f7
noncomputable def B_script_Parse : Code := (F_script_Parse.body).getD .skip
def C_script_Parse : Table := tableOf [(12, (frz r_strings_Split)), (13, (frz (r_slices_DeleteFunc_string_string (tabL [(14, r_script_Parse_1)])))), (15, r_script_step)]
theorem C_script_Parse_ok {w0 : World} (hw : Base w0) : (C_script_Parse).Ok w0 PP := TableOk.ok (w0 := w0) (P := PP) (l := [(12, (frz r_strings_Split)), (13, (frz (r_slices_DeleteFunc_string_string (tabL [(14, r_script_Parse_1)])))), (15, r_script_step)]) ⟨(r_strings_Split_ok hw).frz.call, ((r_slices_DeleteFunc_string_string_ok hw (TableOk.tab (w0 := w0) (P := PP) (l := [(14, r_script_Parse_1)]) ⟨(r_script_Parse_1_ok hw).call, trivial⟩))).frz.call, (r_script_step_ok hw).call, trivial⟩
theorem B_script_Parse_ok : codeOk F_script_Parse.ntmps B_script_Parse = true := by kernel_rfl
def r_script_Parse_p54 (K : AV → AH → Prop) (Y54 : List AV → AH → Prop) (s : List AV) (H : AH) : Prop := match s with
| [t4, t5] =>
bnd (lenSl t4) fun t12_3 =>
bnd (abin PP .eql 3 t12_3 (.int .i64 0)) fun t13_4 =>
branch t13_4 (
K (.tup [t5, (.int .i64 0)]) H) (
bnd (idxA 1 t4 (.int .i64 0)) fun t16_5 =>
bnd (ld1 t16_5 H) fun t17_6 =>
(frz r_strings_Split) [t17_6, (.str [32])] H fun t18_7 H_8 =>
(frz (r_slices_DeleteFunc_string_string (tabL [(14, r_script_Parse_1)]))) [t18_7, (.fn (.func 14) [] [])] H_8 fun t19_9 H_10 =>
bnd (sliceSl 1 t4 (some (.int .i64 1)) none none) fun t21_11 =>
bnd (lenSl t19_9) fun t23_12 =>
bnd (abin PP .eql 3 t23_12 (.int .i64 0)) fun t24_13 =>
branch t24_13 (
Y54 [t21_11, t5] H_10) (
r_script_step [t19_9] H_10 fun t27_14 H_15 =>
bnd (aextract t27_14 0) fun t28_16 =>
bnd (aextract t27_14 1) fun t29_17 =>
(fun (t7_18 : AV) (H_19 : AH) =>
bnd (ast 12 t7_18 t28_16 H_19) fun H_20 =>
bnd (aun .not t29_17) fun t31_21 =>
branch t31_21 (
K (.tup [(.nils), (.int .i64 2)]) H_20) (
bnd (ldN 12 t7_18 H_20) fun t33_22 =>
bnd (buildSl 12 1 [(0, t33_22)]) fun t34_23 =>
appK 12 136 t5 t34_23 H_20 fun t35_24 H_25 =>
Y54 [t21_11, t35_24] H_25)) (.ptr H_15.next 0) (H_15.add (.cells [.int .i64 0, .int .i64 0, .str [], .str [], .str [], .int .i64 0, .int .i64 0, .int .i64 0, .int .i64 0, .nils, .int .i64 0, .int .i64 0]))))
| _ => False
def r_script_Parse : AFn := fun args H K => match args with
| [t0] =>
(frz r_strings_Split) [t0, (.str [10])] H fun t10_1 H_2 =>
LoopP (r_script_Parse_p54 K) [t10_1, (.nils)] H_2
| _ => False
theorem s_script_Parse_p54 {w0 : World} (hw : Base w0) {K : AV → AH → Prop} : Pt w0 PP F_script_Parse F_script_Parse.ntmps B_script_Parse K 54 (fun ρ H => LoopP (r_script_Parse_p54 K) [ρ 4, ρ 5] H) :=
  Pt.loop (st := fun ρ => [ρ 4, ρ 5]) fun Y54 h54 => Pt.walk_eq (p := [false, true, true, false, true]) (ct := C_script_Parse) (tab := [(54, fun ρ H => Y54 [ρ 4, ρ 5] H)])
    (C_script_Parse_ok hw) PP_mixed B_script_Parse_ok ⟨h54, trivial⟩ (by kernel_rfl)
theorem r_script_Parse_ok {w0 : World} (hw : Base w0) : FnOk w0 PP 7 (r_script_Parse) := ⟨⟨F_script_Parse, by kernel_rfl, by kernel_rfl, by kernel_rfl⟩, sound_of_pt (fn := F_script_Parse) (body := B_script_Parse) (n := 1) (by kernel_rfl) (by kernel_rfl)
  (fun args H K h => by unfold r_script_Parse at h; split at h; rfl; exact h.elim) fun K => Pt.walk_eq (p := []) (ct := C_script_Parse) (tab := [(54, fun ρ H => LoopP (r_script_Parse_p54 K) [ρ 4, ρ 5] H)])
    (C_script_Parse_ok hw) PP_mixed B_script_Parse_ok ⟨s_script_Parse_p54 hw, trivial⟩ (by kernel_rfl)⟩

abbrev k_hostlerlaw21_wakes : Nat := 9
-- hostler/hostlerlaw21.wakes
noncomputable abbrev F_hostlerlaw21_wakes : Func := Go.Proofs.Tryd.f9
noncomputable def B_hostlerlaw21_wakes : Code := (F_hostlerlaw21_wakes.body).getD .skip
def C_hostlerlaw21_wakes : Table := tableOf [(7, r_script_Parse), (16, r_hostlerref01_Same)]
theorem C_hostlerlaw21_wakes_ok {w0 : World} (hw : Base w0) : (C_hostlerlaw21_wakes).Ok w0 PP := TableOk.ok (w0 := w0) (P := PP) (l := [(7, r_script_Parse), (16, r_hostlerref01_Same)]) ⟨(r_script_Parse_ok hw).call, (r_hostlerref01_Same_ok hw).call, trivial⟩
theorem B_hostlerlaw21_wakes_ok : codeOk F_hostlerlaw21_wakes.ntmps B_hostlerlaw21_wakes = true := by kernel_rfl
def r_hostlerlaw21_wakes : AFn := fun args H K => match args with
| [] =>
r_script_Parse [(.str [107, 105, 108, 108, 32, 97, 32, 98])] H fun t4_1 H_2 =>
bnd (aextract t4_1 0) fun t5_3 =>
bnd (aextract t4_1 1) fun t6_4 =>
bnd (abin PP .eql 36 t6_4 (.int .i64 0)) fun t8_5 =>
aguard (gwant true t8_5) (fun k_8 =>
k_8 t5_3 H_2) H_2 fun t10_6 H_7 =>
aguard (gwant true t8_5) (fun k_11 =>
bnd (lenSl t10_6) fun t11_12 =>
k_11 t11_12 H_7) H_7 fun t11_9 H_10 =>
aguard (gwant true t8_5) (fun k_15 =>
bnd (abin PP .eql 3 t11_9 (.int .i64 1)) fun t12_16 =>
k_15 t12_16 H_10) H_10 fun t12_13 H_14 =>
bnd (pickV t8_5 t12_13 (.bool false)) fun t13_17 =>
aguard (gwant true t13_17) (fun k_20 =>
k_20 t5_3 H_14) H_14 fun t15_18 H_19 =>
aguard (gwant true t13_17) (fun k_23 =>
bnd (idxA 12 t15_18 (.int .i64 0)) fun t16_24 =>
k_23 t16_24 H_19) H_19 fun t16_21 H_22 =>
aguard (gwant true t13_17) (fun k_27 =>
bnd (aoff 0 t16_21) fun t17_28 =>
k_27 t17_28 H_22) H_22 fun t17_25 H_26 =>
aguard (gwant true t13_17) (fun k_31 =>
bnd (ld1 t17_25 H_26) fun t18_32 =>
k_31 t18_32 H_26) H_26 fun t18_29 H_30 =>
aguard (gwant true t13_17) (fun k_35 =>
bnd (abin PP .eql 3 t18_29 (.int .i64 1)) fun t19_36 =>
k_35 t19_36 H_30) H_30 fun t19_33 H_34 =>
bnd (pickV t13_17 t19_33 (.bool false)) fun t20_37 =>
aguard (gwant true t20_37) (fun k_40 =>
k_40 t5_3 H_34) H_34 fun t22_38 H_39 =>
aguard (gwant true t20_37) (fun k_43 =>
bnd (idxA 12 t22_38 (.int .i64 0)) fun t23_44 =>
k_43 t23_44 H_39) H_39 fun t23_41 H_42 =>
aguard (gwant true t20_37) (fun k_47 =>
bnd (aoff 1 t23_41) fun t24_48 =>
k_47 t24_48 H_42) H_42 fun t24_45 H_46 =>
aguard (gwant true t20_37) (fun k_51 =>
bnd (ldN 9 t24_45 H_46) fun t25_52 =>
k_51 t25_52 H_46) H_46 fun t25_49 H_50 =>
aguard (gwant true t20_37) (fun k_55 =>
bnd (astruct [(0, 1), (1, 1), (2, 1), (3, 1), (4, 1), (5, 1), (6, 1), (7, 1), (8, 1)] [.int .i64 0, .str [], .str [], .str [], .int .i64 0, .int .i64 0, .int .i64 0, .int .i64 0, .nils] [(0, (.int .i64 2)), (1, (.str [97])), (3, (.str [98]))]) fun t26_56 =>
k_55 t26_56 H_50) H_50 fun t26_53 H_54 =>
aguard (gwant true t20_37) (fun k_59 =>
r_hostlerref01_Same [t25_49, t26_53] H_54 fun t27_60 H_61 =>
k_59 t27_60 H_61) H_54 fun t27_57 H_58 =>
bnd (pickV t20_37 t27_57 (.bool false)) fun t28_62 =>
K t28_62 H_58
| _ => False
theorem r_hostlerlaw21_wakes_ok {w0 : World} (hw : Base w0) : FnOk w0 PP 9 (r_hostlerlaw21_wakes) := ⟨⟨F_hostlerlaw21_wakes, by kernel_rfl, by kernel_rfl, by kernel_rfl⟩, sound_of_pt (fn := F_hostlerlaw21_wakes) (body := B_hostlerlaw21_wakes) (n := 0) (by kernel_rfl) (by kernel_rfl)
  (fun args H K h => by unfold r_hostlerlaw21_wakes at h; split at h; rfl; exact h.elim) fun K => Pt.walk_eq (p := []) (ct := C_hostlerlaw21_wakes) (tab := [])
    (C_hostlerlaw21_wakes_ok hw) PP_mixed B_hostlerlaw21_wakes_ok trivial (by kernel_rfl)⟩

abbrev k_hostlerlaw21_ScriptForms_1 : Nat := 6
-- hostler/hostlerlaw21.ScriptForms_1
noncomputable abbrev F_hostlerlaw21_ScriptForms_1 : Func := Go.Proofs.Tryd.f6
noncomputable def B_hostlerlaw21_ScriptForms_1 : Code := (F_hostlerlaw21_ScriptForms_1.body).getD .skip
def C_hostlerlaw21_ScriptForms_1 : Table := tableOf []
theorem C_hostlerlaw21_ScriptForms_1_ok {w0 : World} (hw : Base w0) : (C_hostlerlaw21_ScriptForms_1).Ok w0 PP := TableOk.ok (w0 := w0) (P := PP) (l := []) trivial
theorem B_hostlerlaw21_ScriptForms_1_ok : codeOk F_hostlerlaw21_ScriptForms_1.ntmps B_hostlerlaw21_ScriptForms_1 = true := by kernel_rfl
def r_hostlerlaw21_ScriptForms_1 : AFn := fun args H K => match args with
| [t0] =>
bnd (sliceStr (.str [48, 49, 50, 51, 52, 53, 54, 55, 56, 57]) (some t0) none none) fun t4_1 =>
bnd (sliceStr t4_1 none (some (.int .i64 1)) none) fun t5_2 =>
K t5_2 H
| _ => False
theorem r_hostlerlaw21_ScriptForms_1_ok {w0 : World} (hw : Base w0) : FnOk w0 PP 6 (r_hostlerlaw21_ScriptForms_1) := ⟨⟨F_hostlerlaw21_ScriptForms_1, by kernel_rfl, by kernel_rfl, by kernel_rfl⟩, sound_of_pt (fn := F_hostlerlaw21_ScriptForms_1) (body := B_hostlerlaw21_ScriptForms_1) (n := 1) (by kernel_rfl) (by kernel_rfl)
  (fun args H K h => by unfold r_hostlerlaw21_ScriptForms_1 at h; split at h; rfl; exact h.elim) fun K => Pt.walk_eq (p := []) (ct := C_hostlerlaw21_ScriptForms_1) (tab := [])
    (C_hostlerlaw21_ScriptForms_1_ok hw) PP_mixed B_hostlerlaw21_ScriptForms_1_ok trivial (by kernel_rfl)⟩

abbrev k_hostlerlaw21_ScriptNumbers : Nat := 4
-- hostler/hostlerlaw21.ScriptNumbers
noncomputable abbrev F_hostlerlaw21_ScriptNumbers : Func := Go.Proofs.Tryd.f4
noncomputable def B_hostlerlaw21_ScriptNumbers : Code := (F_hostlerlaw21_ScriptNumbers.body).getD .skip
def C_hostlerlaw21_ScriptNumbers : Table := tableOf [(5, r_hostlerkeep_Within), (9, r_hostlerlaw21_wakes), (10, r_hostlerlaw21_digits), (11, r_script_Number)]
theorem C_hostlerlaw21_ScriptNumbers_ok {w0 : World} (hw : Base w0) : (C_hostlerlaw21_ScriptNumbers).Ok w0 PP := TableOk.ok (w0 := w0) (P := PP) (l := [(5, r_hostlerkeep_Within), (9, r_hostlerlaw21_wakes), (10, r_hostlerlaw21_digits), (11, r_script_Number)]) ⟨(r_hostlerkeep_Within_ok hw).call, (r_hostlerlaw21_wakes_ok hw).call, (r_hostlerlaw21_digits_ok hw).call, (r_script_Number_ok hw).call, trivial⟩
theorem B_hostlerlaw21_ScriptNumbers_ok : codeOk F_hostlerlaw21_ScriptNumbers.ntmps B_hostlerlaw21_ScriptNumbers = true := by kernel_rfl
def r_hostlerlaw21_ScriptNumbers_p500 (K : AV → AH → Prop) (Y500 : List AV → AH → Prop) (s : List AV) (H : AH) : Prop := match s with
| [t0, t4, t5, t31, t32, t33] =>
bnd (abin PP .lss 3 t33 t32) fun t34_17 =>
branch t34_17 (
bnd (idxA 1 t31 t33) fun t35_18 =>
bnd (ld1 t35_18 H) fun t36_19 =>
r_script_Number [t36_19] H fun t39_20 H_21 =>
bnd (aextract t39_20 0) fun t40_22 =>
bnd (aextract t39_20 1) fun t41_23 =>
aguard (gwant false t41_23) (fun k_26 =>
k_26 t40_22 H_21) H_21 fun t44_24 H_25 =>
aguard (gwant false t41_23) (fun k_29 =>
bnd (abin PP .neq 3 t44_24 (.int .i64 0)) fun t45_30 =>
k_29 t45_30 H_25) H_25 fun t45_27 H_28 =>
bnd (pickV t41_23 (.bool true) t45_27) fun t46_31 =>
branch t46_31 (
K (.bool false) H_28) (
bnd (abin PP .add 3 t33 (.int .i64 1)) fun t47_32 =>
Y500 [t0, t4, t5, t31, t32, t47_32] H_28)) (
aguard (gwant true t5) (fun k_35 =>
k_35 t4 H) H fun t50_33 H_34 =>
aguard (gwant true t5) (fun k_38 =>
k_38 t0 H_34) H_34 fun t51_36 H_37 =>
aguard (gwant true t5) (fun k_41 =>
bnd (abin PP .eql 3 t50_33 t51_36) fun t52_42 =>
k_41 t52_42 H_37) H_37 fun t52_39 H_40 =>
bnd (pickV t5 t52_39 (.bool false)) fun t53_43 =>
aguard (gwant true t53_43) (fun k_46 =>
r_hostlerlaw21_wakes [] H_40 fun t55_47 H_48 =>
k_46 t55_47 H_48) H_40 fun t55_44 H_45 =>
bnd (pickV t53_43 t55_44 (.bool false)) fun t56_49 =>
K t56_49 H_45)
| _ => False
def r_hostlerlaw21_ScriptNumbers : AFn := fun args H K => match args with
| [t0] =>
r_hostlerkeep_Within [t0, (.int .i64 1000000000)] H fun t11_1 H_2 =>
r_hostlerlaw21_digits [t11_1] H_2 fun t13_3 H_4 =>
r_script_Number [t13_3] H_4 fun t16_5 H_6 =>
bnd (aextract t16_5 0) fun t17_7 =>
bnd (aextract t16_5 1) fun t18_8 =>
bnd (abin PP .add 9 (.str [45]) t13_3) fun t20_9 =>
bnd (abin PP .add 9 (.str [43]) t13_3) fun t22_10 =>
bnd (abin PP .add 9 (.str [48]) t13_3) fun t24_11 =>
bnd (abin PP .add 9 t13_3 (.str [32])) fun t26_12 =>
bnd (abin PP .add 9 t13_3 (.str [120])) fun t28_13 =>
bnd (abin PP .add 9 (.str [32]) t13_3) fun t30_14 =>
bnd (buildSl 1 9 [(0, (.str [])), (1, t20_9), (2, t22_10), (3, t24_11), (4, t26_12), (5, t28_13), (6, (.str [49, 48, 48, 48, 48, 48, 48, 48, 48, 48])), (7, (.str [120])), (8, t30_14)]) fun t31_15 =>
bnd (lenSl t31_15) fun t32_16 =>
LoopP (r_hostlerlaw21_ScriptNumbers_p500 K) [t11_1, t17_7, t18_8, t31_15, t32_16, (.int .i64 0)] H_6
| _ => False
theorem s_hostlerlaw21_ScriptNumbers_p500 {w0 : World} (hw : Base w0) {K : AV → AH → Prop} : Pt w0 PP F_hostlerlaw21_ScriptNumbers F_hostlerlaw21_ScriptNumbers.ntmps B_hostlerlaw21_ScriptNumbers K 500 (fun ρ H => LoopP (r_hostlerlaw21_ScriptNumbers_p500 K) [ρ 0, ρ 4, ρ 5, ρ 31, ρ 32, ρ 33] H) :=
  Pt.loop (st := fun ρ => [ρ 0, ρ 4, ρ 5, ρ 31, ρ 32, ρ 33]) fun Y500 h500 => Pt.walk_eq (p := [false, false, true, false, true, true, true, true]) (ct := C_hostlerlaw21_ScriptNumbers) (tab := [(500, fun ρ H => Y500 [ρ 0, ρ 4, ρ 5, ρ 31, ρ 32, ρ 33] H)])
    (C_hostlerlaw21_ScriptNumbers_ok hw) PP_mixed B_hostlerlaw21_ScriptNumbers_ok ⟨h500, trivial⟩ (by kernel_rfl)
theorem r_hostlerlaw21_ScriptNumbers_ok {w0 : World} (hw : Base w0) : FnOk w0 PP 4 (r_hostlerlaw21_ScriptNumbers) := ⟨⟨F_hostlerlaw21_ScriptNumbers, by kernel_rfl, by kernel_rfl, by kernel_rfl⟩, sound_of_pt (fn := F_hostlerlaw21_ScriptNumbers) (body := B_hostlerlaw21_ScriptNumbers) (n := 1) (by kernel_rfl) (by kernel_rfl)
  (fun args H K h => by unfold r_hostlerlaw21_ScriptNumbers at h; split at h; rfl; exact h.elim) fun K => Pt.walk_eq (p := []) (ct := C_hostlerlaw21_ScriptNumbers) (tab := [(500, fun ρ H => LoopP (r_hostlerlaw21_ScriptNumbers_p500 K) [ρ 0, ρ 4, ρ 5, ρ 31, ρ 32, ρ 33] H)])
    (C_hostlerlaw21_ScriptNumbers_ok hw) PP_mixed B_hostlerlaw21_ScriptNumbers_ok ⟨s_hostlerlaw21_ScriptNumbers_p500 hw, trivial⟩ (by kernel_rfl)⟩

abbrev k_hostlerlaw21_ScriptForms : Nat := 3
-- hostler/hostlerlaw21.ScriptForms
noncomputable abbrev F_hostlerlaw21_ScriptForms : Func := Go.Proofs.Tryd.f3
noncomputable def B_hostlerlaw21_ScriptForms : Code := (F_hostlerlaw21_ScriptForms.body).getD .skip
def C_hostlerlaw21_ScriptForms (ct : Tab) : Table := tableOr ct [(5, r_hostlerkeep_Within), (7, r_script_Parse), (8, r_hostlerlaw21_SameStep), (9, r_hostlerlaw21_wakes)]
theorem C_hostlerlaw21_ScriptForms_ok {w0 : World} (hw : Base w0) {ct : Tab} (hct : ct.Ok w0 PP) : (C_hostlerlaw21_ScriptForms ct).Ok w0 PP := tableOr_ok hct ⟨(r_hostlerkeep_Within_ok hw).call, (r_script_Parse_ok hw).call, (r_hostlerlaw21_SameStep_ok hw).call, (r_hostlerlaw21_wakes_ok hw).call, trivial⟩
theorem B_hostlerlaw21_ScriptForms_ok : codeOk F_hostlerlaw21_ScriptForms.ntmps B_hostlerlaw21_ScriptForms = true := by kernel_rfl
def r_hostlerlaw21_ScriptForms_p1012 (ct : Tab) (K : AV → AH → Prop) (Y1012 : List AV → AH → Prop) (s : List AV) (H : AH) : Prop := match s with
| [t137, t138, t139] =>
bnd (abin PP .lss 3 t139 t138) fun t140_127 =>
branch t140_127 (
bnd (idxA 1 t137 t139) fun t141_128 =>
bnd (ld1 t141_128 H) fun t142_129 =>
r_script_Parse [t142_129] H fun t145_130 H_131 =>
bnd (aextract t145_130 0) fun t146_132 =>
bnd (aextract t145_130 1) fun t147_133 =>
bnd (abin PP .neq 36 t147_133 (.int .i64 2)) fun t149_134 =>
aguard (gwant false t149_134) (fun k_137 =>
k_137 t146_132 H_131) H_131 fun t151_135 H_136 =>
aguard (gwant false t149_134) (fun k_140 =>
bnd (lenSl t151_135) fun t152_141 =>
k_140 t152_141 H_136) H_136 fun t152_138 H_139 =>
aguard (gwant false t149_134) (fun k_144 =>
bnd (abin PP .neq 3 t152_138 (.int .i64 0)) fun t153_145 =>
k_144 t153_145 H_139) H_139 fun t153_142 H_143 =>
bnd (pickV t149_134 (.bool true) t153_142) fun t154_146 =>
branch t154_146 (
K (.bool false) H_143) (
bnd (abin PP .add 3 t139 (.int .i64 1)) fun t155_147 =>
Y1012 [t137, t138, t155_147] H_143)) (
r_hostlerlaw21_wakes [] H fun t156_148 H_149 =>
K t156_148 H_149)
| _ => False
def r_hostlerlaw21_ScriptForms_p500 (ct : Tab) (K : AV → AH → Prop) (Y500 : List AV → AH → Prop) (s : List AV) (H : AH) : Prop := match s with
| [t108, t109, t110] =>
bnd (abin PP .lss 3 t110 t109) fun t111_79 =>
branch t111_79 (
bnd (idxA 13 t108 t110) fun t112_80 =>
bnd (ldN 13 t112_80 H) fun t113_81 =>
(fun (t10_82 : AV) (H_83 : AH) =>
bnd (ast 13 t10_82 t113_81 H_83) fun H_84 =>
bnd (aoff 0 t10_82) fun t115_85 =>
bnd (ld1 t115_85 H_84) fun t116_86 =>
r_script_Parse [t116_86] H_84 fun t117_87 H_88 =>
bnd (aextract t117_87 0) fun t118_89 =>
bnd (aextract t117_87 1) fun t119_90 =>
bnd (abin PP .neq 36 t119_90 (.int .i64 0)) fun t121_91 =>
aguard (gwant false t121_91) (fun k_93 =>
k_93 t118_89 H_88) H_88 fun t123_92 _ =>
aguard (gwant false t121_91) (fun k_95 =>
bnd (lenSl t123_92) fun t124_96 =>
k_95 t124_96 H_88) H_88 fun t124_94 _ =>
aguard (gwant false t121_91) (fun k_98 =>
bnd (abin PP .neq 3 t124_94 (.int .i64 1)) fun t125_99 =>
k_98 t125_99 H_88) H_88 fun t125_97 _ =>
bnd (pickV t121_91 (.bool true) t125_97) fun t126_100 =>
aguard (gwant false t126_100) (fun k_102 =>
k_102 t118_89 H_88) H_88 fun t128_101 _ =>
aguard (gwant false t126_100) (fun k_104 =>
bnd (idxA 12 t128_101 (.int .i64 0)) fun t129_105 =>
k_104 t129_105 H_88) H_88 fun t129_103 _ =>
aguard (gwant false t126_100) (fun k_107 =>
bnd (ldN 12 t129_103 H_88) fun t130_108 =>
k_107 t130_108 H_88) H_88 fun t130_106 _ =>
aguard (gwant false t126_100) (fun k_110 =>
bnd (aoff 1 t10_82) fun t131_111 =>
k_110 t131_111 H_88) H_88 fun t131_109 _ =>
aguard (gwant false t126_100) (fun k_113 =>
bnd (ldN 12 t131_109 H_88) fun t132_114 =>
k_113 t132_114 H_88) H_88 fun t132_112 _ =>
aguard (gwant false t126_100) (fun k_117 =>
r_hostlerlaw21_SameStep [t130_106, t132_112] H_88 fun t133_118 H_119 =>
k_117 t133_118 H_119) H_88 fun t133_115 H_116 =>
aguard (gwant false t126_100) (fun k_121 =>
bnd (aun .not t133_115) fun t134_122 =>
k_121 t134_122 H_116) H_116 fun t134_120 _ =>
bnd (pickV t126_100 (.bool true) t134_120) fun t135_123 =>
branch t135_123 (
K (.bool false) H_116) (
bnd (abin PP .add 3 t110 (.int .i64 1)) fun t136_124 =>
Y500 [t108, t109, t136_124] H_116)) (.ptr H.next 0) (H.add (.cells [.str [], .int .i64 0, .int .i64 0, .str [], .str [], .str [], .int .i64 0, .int .i64 0, .int .i64 0, .int .i64 0, .nils, .int .i64 0, .int .i64 0]))) (
bnd (buildSl 1 28 [(0, (.str [114, 117, 110, 32, 102])), (1, (.str [114, 117, 110, 32, 102, 32, 120])), (2, (.str [114, 117, 110, 32, 102, 32, 120, 32, 97, 32, 49])), (3, (.str [114, 117, 110, 32, 102, 32, 120, 32, 97, 32, 49, 32, 120])), (4, (.str [114, 117, 110, 32, 70, 32, 120, 32, 97, 32, 49, 32, 49])), (5, (.str [107, 105, 108, 108, 32, 102])), (6, (.str [107, 105, 108, 108, 32, 102, 32, 97, 32, 98])), (7, (.str [115, 104, 117, 116])), (8, (.str [97, 99, 107, 32, 102, 32, 97, 32, 49])), (9, (.str [97, 99, 107, 32, 102, 32, 97, 32, 48, 49, 32, 49])), (10, (.str [97, 115, 107])), (11, (.str [97, 115, 107, 32, 102, 32, 97, 32, 97])), (12, (.str [97, 115, 107, 32, 102, 32, 97, 32, 98, 32, 99, 32, 100, 32, 101])), (13, (.str [119, 101, 108, 99, 111, 109, 101, 32, 120])), (14, (.str [104, 101, 108, 108, 111, 32, 102, 32, 120])), (15, (.str [114, 101, 112, 111, 114, 116, 32, 102, 32, 120, 32, 49, 32, 97])), (16, (.str [114, 101, 112, 111, 114, 116, 32, 102, 32, 120, 32, 49, 32, 97, 32, 48])), (17, (.str [103, 111, 110, 101, 32, 102, 32, 120])), (18, (.str [114, 101, 103, 105, 115, 116, 101, 114, 32, 49])), (19, (.str [115, 116, 97, 114, 116, 32, 102, 32, 120, 32, 49])), (20, (.str [116, 105, 99, 107])), (21, (.str [116, 105, 99, 107, 32, 45, 49])), (22, (.str [116, 105, 99, 107, 32, 49, 32, 50])), (23, (.str [102, 117, 115, 101, 32, 120])), (24, (.str [99, 114, 97, 115, 104])), (25, (.str [99, 114, 97, 115, 104, 32, 49, 32, 50, 32, 51])), (26, (.str [116, 105, 99, 107, 9, 49])), (27, (.str [116, 105, 99, 107, 32, 49, 10, 120]))]) fun t137_125 =>
bnd (lenSl t137_125) fun t138_126 =>
LoopP (r_hostlerlaw21_ScriptForms_p1012 ct K) [t137_125, t138_126, (.int .i64 0)] H)
| _ => False
def r_hostlerlaw21_ScriptForms (ct : Tab) : AFn := fun args H K => match args with
| [t0, t1, t2] =>
r_hostlerkeep_Within [t0, (.int .i64 9)] H fun t18_1 H_2 =>
bnd (abin PP .add 3 (.int .i64 1) t18_1) fun t19_3 =>
r_hostlerkeep_Within [t1, (.int .i64 10)] H_2 fun t21_4 H_5 =>
r_hostlerkeep_Within [t2, (.int .i64 9)] H_5 fun t23_6 H_7 =>
bnd (abin PP .add 3 (.int .i64 1) t23_6) fun t24_8 =>
bnd (convR (.int .i64) (.float .f64) t21_4) fun t26_9 =>
bnd (convR (.int .i64) (.float .f64) t24_8) fun t28_10 =>
bnd (acplx t26_9 t28_10) fun t29_11 =>
bnd (astruct [(0, 1), (1, 1)] [.str [], .cplx .f64 0 0] [(0, (.str [97])), (1, t29_11)]) fun t30_12 =>
bnd (astruct [(0, 1), (1, 1)] [.str [], .cplx .f64 0 0] [(0, (.str [98, 50])), (1, (.cplx .f64 4622945017495814144 0))]) fun t31_13 =>
bnd (buildSl 2 2 [(0, t30_12), (1, t31_13)]) fun t32_14 =>
acallv ct (.fn (.func 6) [] []) [t21_4] H_7 fun t35_15 H_16 =>
bnd (abin PP .add 9 (.str [114, 117, 110, 32, 102, 32, 120, 32, 97, 32]) t35_15) fun t36_17 =>
bnd (abin PP .add 9 t36_17 (.str [32])) fun t37_18 =>
acallv ct (.fn (.func 6) [] []) [t24_8] H_16 fun t40_19 H_20 =>
bnd (abin PP .add 9 t37_18 t40_19) fun t41_21 =>
bnd (abin PP .add 9 t41_21 (.str [32, 32, 98, 50, 32, 49, 50, 32, 48, 32])) fun t42_22 =>
bnd (astruct [(0, 1), (1, 1), (2, 1), (3, 1), (4, 1), (5, 1), (6, 1), (7, 1), (8, 1)] [.int .i64 0, .str [], .str [], .str [], .int .i64 0, .int .i64 0, .int .i64 0, .int .i64 0, .nils] [(0, (.int .i64 1)), (1, (.str [102])), (2, (.str [120])), (8, t32_14)]) fun t44_23 =>
bnd (astruct [(0, 1), (1, 9), (10, 1), (11, 1)] [.int .i64 0, .int .i64 0, .str [], .str [], .str [], .int .i64 0, .int .i64 0, .int .i64 0, .int .i64 0, .nils, .int .i64 0, .int .i64 0] [(0, (.int .i64 1)), (1, t44_23)]) fun t45_24 =>
bnd (astruct [(0, 1), (1, 12)] [.str [], .int .i64 0, .int .i64 0, .str [], .str [], .str [], .int .i64 0, .int .i64 0, .int .i64 0, .int .i64 0, .nils, .int .i64 0, .int .i64 0] [(0, t42_22), (1, t45_24)]) fun t46_25 =>
bnd (astruct [(0, 1), (1, 1), (2, 1), (3, 1), (4, 1), (5, 1), (6, 1), (7, 1), (8, 1)] [.int .i64 0, .str [], .str [], .str [], .int .i64 0, .int .i64 0, .int .i64 0, .int .i64 0, .nils] [(0, (.int .i64 3)), (1, (.str [102]))]) fun t47_26 =>
bnd (astruct [(0, 1), (1, 9), (10, 1), (11, 1)] [.int .i64 0, .int .i64 0, .str [], .str [], .str [], .int .i64 0, .int .i64 0, .int .i64 0, .int .i64 0, .nils, .int .i64 0, .int .i64 0] [(0, (.int .i64 1)), (1, t47_26)]) fun t48_27 =>
bnd (astruct [(0, 1), (1, 12)] [.str [], .int .i64 0, .int .i64 0, .str [], .str [], .str [], .int .i64 0, .int .i64 0, .int .i64 0, .int .i64 0, .nils, .int .i64 0, .int .i64 0] [(0, (.str [115, 104, 117, 116, 32, 102])), (1, t48_27)]) fun t49_28 =>
acallv ct (.fn (.func 6) [] []) [t19_3] H_20 fun t52_29 H_30 =>
bnd (abin PP .add 9 (.str [97, 99, 107, 32, 102, 32, 97, 32]) t52_29) fun t53_31 =>
bnd (abin PP .add 9 t53_31 (.str [32, 55])) fun t54_32 =>
bnd (astruct [(0, 1), (1, 1), (2, 1), (3, 1), (4, 1), (5, 1), (6, 1), (7, 1), (8, 1)] [.int .i64 0, .str [], .str [], .str [], .int .i64 0, .int .i64 0, .int .i64 0, .int .i64 0, .nils] [(0, (.int .i64 4)), (1, (.str [102])), (3, (.str [97])), (6, t19_3), (7, (.int .i64 7))]) fun t56_33 =>
bnd (astruct [(0, 1), (1, 9), (10, 1), (11, 1)] [.int .i64 0, .int .i64 0, .str [], .str [], .str [], .int .i64 0, .int .i64 0, .int .i64 0, .int .i64 0, .nils, .int .i64 0, .int .i64 0] [(0, (.int .i64 1)), (1, t56_33)]) fun t57_34 =>
bnd (astruct [(0, 1), (1, 12)] [.str [], .int .i64 0, .int .i64 0, .str [], .str [], .str [], .int .i64 0, .int .i64 0, .int .i64 0, .int .i64 0, .nils, .int .i64 0, .int .i64 0] [(0, t54_32), (1, t57_34)]) fun t58_35 =>
bnd (astruct [(0, 1), (1, 1), (2, 1), (3, 1), (4, 1), (5, 1), (6, 1), (7, 1), (8, 1)] [.int .i64 0, .str [], .str [], .str [], .int .i64 0, .int .i64 0, .int .i64 0, .int .i64 0, .nils] [(0, (.int .i64 5)), (1, (.str [102]))]) fun t59_36 =>
bnd (astruct [(0, 1), (1, 9), (10, 1), (11, 1)] [.int .i64 0, .int .i64 0, .str [], .str [], .str [], .int .i64 0, .int .i64 0, .int .i64 0, .int .i64 0, .nils, .int .i64 0, .int .i64 0] [(0, (.int .i64 1)), (1, t59_36)]) fun t60_37 =>
bnd (astruct [(0, 1), (1, 12)] [.str [], .int .i64 0, .int .i64 0, .str [], .str [], .str [], .int .i64 0, .int .i64 0, .int .i64 0, .int .i64 0, .nils, .int .i64 0, .int .i64 0] [(0, (.str [97, 115, 107, 32, 102])), (1, t60_37)]) fun t61_38 =>
bnd (astruct [(0, 1), (1, 1)] [.str [], .cplx .f64 0 0] [(0, (.str [97]))]) fun t62_39 =>
bnd (astruct [(0, 1), (1, 1)] [.str [], .cplx .f64 0 0] [(0, (.str [98]))]) fun t63_40 =>
bnd (buildSl 2 2 [(0, t62_39), (1, t63_40)]) fun t64_41 =>
bnd (astruct [(0, 1), (1, 1), (2, 1), (3, 1), (4, 1), (5, 1), (6, 1), (7, 1), (8, 1)] [.int .i64 0, .str [], .str [], .str [], .int .i64 0, .int .i64 0, .int .i64 0, .int .i64 0, .nils] [(0, (.int .i64 5)), (1, (.str [102])), (8, t64_41)]) fun t65_42 =>
bnd (astruct [(0, 1), (1, 9), (10, 1), (11, 1)] [.int .i64 0, .int .i64 0, .str [], .str [], .str [], .int .i64 0, .int .i64 0, .int .i64 0, .int .i64 0, .nils, .int .i64 0, .int .i64 0] [(0, (.int .i64 1)), (1, t65_42)]) fun t66_43 =>
bnd (astruct [(0, 1), (1, 12)] [.str [], .int .i64 0, .int .i64 0, .str [], .str [], .str [], .int .i64 0, .int .i64 0, .int .i64 0, .int .i64 0, .nils, .int .i64 0, .int .i64 0] [(0, (.str [97, 115, 107, 32, 102, 32, 97, 32, 98])), (1, t66_43)]) fun t67_44 =>
bnd (astruct [(0, 1), (1, 1), (2, 1), (3, 1), (4, 1), (5, 1), (6, 1), (7, 1), (8, 1)] [.int .i64 0, .str [], .str [], .str [], .int .i64 0, .int .i64 0, .int .i64 0, .int .i64 0, .nils] [(0, (.int .i64 6))]) fun t68_45 =>
bnd (astruct [(0, 1), (1, 9), (10, 1), (11, 1)] [.int .i64 0, .int .i64 0, .str [], .str [], .str [], .int .i64 0, .int .i64 0, .int .i64 0, .int .i64 0, .nils, .int .i64 0, .int .i64 0] [(0, (.int .i64 1)), (1, t68_45)]) fun t69_46 =>
bnd (astruct [(0, 1), (1, 12)] [.str [], .int .i64 0, .int .i64 0, .str [], .str [], .str [], .int .i64 0, .int .i64 0, .int .i64 0, .int .i64 0, .nils, .int .i64 0, .int .i64 0] [(0, (.str [32, 119, 101, 108, 99, 111, 109, 101])), (1, t69_46)]) fun t70_47 =>
acallv ct (.fn (.func 6) [] []) [t19_3] H_30 fun t73_48 H_49 =>
bnd (abin PP .add 9 (.str [104, 101, 108, 108, 111, 32, 102, 32, 120, 32]) t73_48) fun t74_50 =>
bnd (astruct [(0, 1), (1, 1), (2, 1), (3, 1), (4, 1), (5, 1), (6, 1), (7, 1), (8, 1)] [.int .i64 0, .str [], .str [], .str [], .int .i64 0, .int .i64 0, .int .i64 0, .int .i64 0, .nils] [(0, (.int .i64 7)), (1, (.str [102])), (2, (.str [120])), (4, t19_3)]) fun t76_51 =>
bnd (astruct [(0, 1), (1, 9), (10, 1), (11, 1)] [.int .i64 0, .int .i64 0, .str [], .str [], .str [], .int .i64 0, .int .i64 0, .int .i64 0, .int .i64 0, .nils, .int .i64 0, .int .i64 0] [(0, (.int .i64 1)), (1, t76_51)]) fun t77_52 =>
bnd (astruct [(0, 1), (1, 12)] [.str [], .int .i64 0, .int .i64 0, .str [], .str [], .str [], .int .i64 0, .int .i64 0, .int .i64 0, .int .i64 0, .nils, .int .i64 0, .int .i64 0] [(0, t74_50), (1, t77_52)]) fun t78_53 =>
bnd (astruct [(0, 1), (1, 1), (2, 1), (3, 1), (4, 1), (5, 1), (6, 1), (7, 1), (8, 1)] [.int .i64 0, .str [], .str [], .str [], .int .i64 0, .int .i64 0, .int .i64 0, .int .i64 0, .nils] [(0, (.int .i64 8)), (1, (.str [102])), (2, (.str [120])), (4, (.int .i64 1)), (3, (.str [97])), (5, (.int .i64 3))]) fun t79_54 =>
bnd (astruct [(0, 1), (1, 9), (10, 1), (11, 1)] [.int .i64 0, .int .i64 0, .str [], .str [], .str [], .int .i64 0, .int .i64 0, .int .i64 0, .int .i64 0, .nils, .int .i64 0, .int .i64 0] [(0, (.int .i64 1)), (1, t79_54)]) fun t80_55 =>
bnd (astruct [(0, 1), (1, 12)] [.str [], .int .i64 0, .int .i64 0, .str [], .str [], .str [], .int .i64 0, .int .i64 0, .int .i64 0, .int .i64 0, .nils, .int .i64 0, .int .i64 0] [(0, (.str [114, 101, 112, 111, 114, 116, 32, 102, 32, 120, 32, 49, 32, 97, 32, 51])), (1, t80_55)]) fun t81_56 =>
bnd (astruct [(0, 1), (1, 1), (2, 1), (3, 1), (4, 1), (5, 1), (6, 1), (7, 1), (8, 1)] [.int .i64 0, .str [], .str [], .str [], .int .i64 0, .int .i64 0, .int .i64 0, .int .i64 0, .nils] [(0, (.int .i64 9)), (1, (.str [102])), (2, (.str [120])), (4, (.int .i64 1))]) fun t82_57 =>
bnd (astruct [(0, 1), (1, 9), (10, 1), (11, 1)] [.int .i64 0, .int .i64 0, .str [], .str [], .str [], .int .i64 0, .int .i64 0, .int .i64 0, .int .i64 0, .nils, .int .i64 0, .int .i64 0] [(0, (.int .i64 1)), (1, t82_57)]) fun t83_58 =>
bnd (astruct [(0, 1), (1, 12)] [.str [], .int .i64 0, .int .i64 0, .str [], .str [], .str [], .int .i64 0, .int .i64 0, .int .i64 0, .int .i64 0, .nils, .int .i64 0, .int .i64 0] [(0, (.str [103, 111, 110, 101, 32, 102, 32, 120, 32, 49])), (1, t83_58)]) fun t84_59 =>
acallv ct (.fn (.func 6) [] []) [t19_3] H_49 fun t87_60 H_61 =>
bnd (abin PP .add 9 (.str [116, 105, 99, 107, 32]) t87_60) fun t88_62 =>
bnd (astruct [(0, 1), (1, 9), (10, 1), (11, 1)] [.int .i64 0, .int .i64 0, .str [], .str [], .str [], .int .i64 0, .int .i64 0, .int .i64 0, .int .i64 0, .nils, .int .i64 0, .int .i64 0] [(0, (.int .i64 2)), (2, t19_3)]) fun t90_63 =>
bnd (astruct [(0, 1), (1, 12)] [.str [], .int .i64 0, .int .i64 0, .str [], .str [], .str [], .int .i64 0, .int .i64 0, .int .i64 0, .int .i64 0, .nils, .int .i64 0, .int .i64 0] [(0, t88_62), (1, t90_63)]) fun t91_64 =>
bnd (astruct [(0, 1), (1, 9), (10, 1), (11, 1)] [.int .i64 0, .int .i64 0, .str [], .str [], .str [], .int .i64 0, .int .i64 0, .int .i64 0, .int .i64 0, .nils, .int .i64 0, .int .i64 0] [(0, (.int .i64 3))]) fun t92_65 =>
bnd (astruct [(0, 1), (1, 12)] [.str [], .int .i64 0, .int .i64 0, .str [], .str [], .str [], .int .i64 0, .int .i64 0, .int .i64 0, .int .i64 0, .nils, .int .i64 0, .int .i64 0] [(0, (.str [102, 117, 115, 101, 32, 48])), (1, t92_65)]) fun t93_66 =>
acallv ct (.fn (.func 6) [] []) [t19_3] H_61 fun t96_67 H_68 =>
bnd (abin PP .add 9 (.str [99, 114, 97, 115, 104, 32]) t96_67) fun t97_69 =>
bnd (astruct [(0, 1), (1, 9), (10, 1), (11, 1)] [.int .i64 0, .int .i64 0, .str [], .str [], .str [], .int .i64 0, .int .i64 0, .int .i64 0, .int .i64 0, .nils, .int .i64 0, .int .i64 0] [(0, (.int .i64 4)), (2, t19_3), (3, (.int .i64 (-1)))]) fun t99_70 =>
bnd (astruct [(0, 1), (1, 12)] [.str [], .int .i64 0, .int .i64 0, .str [], .str [], .str [], .int .i64 0, .int .i64 0, .int .i64 0, .int .i64 0, .nils, .int .i64 0, .int .i64 0] [(0, t97_69), (1, t99_70)]) fun t100_71 =>
acallv ct (.fn (.func 6) [] []) [t19_3] H_68 fun t103_72 H_73 =>
bnd (abin PP .add 9 (.str [99, 114, 97, 115, 104, 32, 48, 32]) t103_72) fun t104_74 =>
bnd (astruct [(0, 1), (1, 9), (10, 1), (11, 1)] [.int .i64 0, .int .i64 0, .str [], .str [], .str [], .int .i64 0, .int .i64 0, .int .i64 0, .int .i64 0, .nils, .int .i64 0, .int .i64 0] [(0, (.int .i64 4)), (3, t19_3)]) fun t106_75 =>
bnd (astruct [(0, 1), (1, 12)] [.str [], .int .i64 0, .int .i64 0, .str [], .str [], .str [], .int .i64 0, .int .i64 0, .int .i64 0, .int .i64 0, .nils, .int .i64 0, .int .i64 0] [(0, t104_74), (1, t106_75)]) fun t107_76 =>
bnd (buildSl 13 13 [(0, t46_25), (1, t49_28), (2, t58_35), (3, t61_38), (4, t67_44), (5, t70_47), (6, t78_53), (7, t81_56), (8, t84_59), (9, t91_64), (10, t93_66), (11, t100_71), (12, t107_76)]) fun t108_77 =>
bnd (lenSl t108_77) fun t109_78 =>
LoopP (r_hostlerlaw21_ScriptForms_p500 ct K) [t108_77, t109_78, (.int .i64 0)] H_73
| _ => False
theorem s_hostlerlaw21_ScriptForms_p1012 {w0 : World} (hw : Base w0) {ct : Tab} (hct : ct.Ok w0 PP) {K : AV → AH → Prop} : Pt w0 PP F_hostlerlaw21_ScriptForms F_hostlerlaw21_ScriptForms.ntmps B_hostlerlaw21_ScriptForms K 1012 (fun ρ H => LoopP (r_hostlerlaw21_ScriptForms_p1012 ct K) [ρ 137, ρ 138, ρ 139] H) :=
  Pt.loop (st := fun ρ => [ρ 137, ρ 138, ρ 139]) fun Y1012 h1012 => Pt.walk_eq (p := [false, false, true, false, true, true, true, true, true]) (ct := C_hostlerlaw21_ScriptForms ct) (tab := [(1012, fun ρ H => Y1012 [ρ 137, ρ 138, ρ 139] H)])
    (C_hostlerlaw21_ScriptForms_ok hw hct) PP_mixed B_hostlerlaw21_ScriptForms_ok ⟨h1012, trivial⟩ (by kernel_rfl)
theorem s_hostlerlaw21_ScriptForms_p500 {w0 : World} (hw : Base w0) {ct : Tab} (hct : ct.Ok w0 PP) {K : AV → AH → Prop} : Pt w0 PP F_hostlerlaw21_ScriptForms F_hostlerlaw21_ScriptForms.ntmps B_hostlerlaw21_ScriptForms K 500 (fun ρ H => LoopP (r_hostlerlaw21_ScriptForms_p500 ct K) [ρ 108, ρ 109, ρ 110] H) :=
  Pt.loop (st := fun ρ => [ρ 108, ρ 109, ρ 110]) fun Y500 h500 => Pt.walk_eq (p := [false, false, true, false, true, true, true, true]) (ct := C_hostlerlaw21_ScriptForms ct) (tab := [(500, fun ρ H => Y500 [ρ 108, ρ 109, ρ 110] H), (1012, fun ρ H => LoopP (r_hostlerlaw21_ScriptForms_p1012 ct K) [ρ 137, ρ 138, ρ 139] H)])
    (C_hostlerlaw21_ScriptForms_ok hw hct) PP_mixed B_hostlerlaw21_ScriptForms_ok ⟨h500, s_hostlerlaw21_ScriptForms_p1012 hw hct, trivial⟩ (by kernel_rfl)
theorem r_hostlerlaw21_ScriptForms_ok {w0 : World} (hw : Base w0) {ct : Tab} (hct : ct.Ok w0 PP) : FnOk w0 PP 3 (r_hostlerlaw21_ScriptForms ct) := ⟨⟨F_hostlerlaw21_ScriptForms, by kernel_rfl, by kernel_rfl, by kernel_rfl⟩, sound_of_pt (fn := F_hostlerlaw21_ScriptForms) (body := B_hostlerlaw21_ScriptForms) (n := 3) (by kernel_rfl) (by kernel_rfl)
  (fun args H K h => by unfold r_hostlerlaw21_ScriptForms at h; split at h; rfl; exact h.elim) fun K => Pt.walk_eq (p := []) (ct := C_hostlerlaw21_ScriptForms ct) (tab := [(500, fun ρ H => LoopP (r_hostlerlaw21_ScriptForms_p500 ct K) [ρ 108, ρ 109, ρ 110] H)])
    (C_hostlerlaw21_ScriptForms_ok hw hct) PP_mixed B_hostlerlaw21_ScriptForms_ok ⟨s_hostlerlaw21_ScriptForms_p500 hw hct, trivial⟩ (by kernel_rfl)⟩
end Go.Va
end
