/- What functions do, printed out of the code. -/
import Derived.Test.YthojojlgmaoecaaGreatAm34
import Derived.Test.YthojojlgmaoecaaGreatProg
import Derived.KernelRfl
set_option maxRecDepth 100000
set_option linter.all false
namespace Go.Proofs.YthojojlgmaoecaaGreat
open Go.Am
def p3_1 (v103 : Value) (s95 : Store) (s104 : Store) (v0 : Value) (x73 : Value) (v60 : Value) (k83 : Value → Store → Prop) : Prop :=
vop (loadV false 1 v103 s95.get) s104 fun v105 _ =>
vop (faddr 0 v0) s104 fun v106 s107 =>
vop (faddr 0 v106) s107 fun v108 s109 =>
vop (loadV false 1 v108 s95.get) s109 fun v110 _ =>
Does Tryz.prog 9 [v105, v110] s109 fun v111 s112 =>
vop (faddr 2 v0) s112 fun v113 s114 =>
vop (loadV false 1 v113 s112.get) s114 fun v115 _ =>
kop (loadV false 1 v113 s95.get) v115 (
vop (iaddrS 1026 v115 x73) s114 fun v116 s117 =>
vop (faddr 2 v116) s117 fun v118 s119 =>
vop (loadV true 1024 v118 s112.get) s119 fun v120 _ =>
kop (loadV true 1024 v118 s95.get) v120 (
Does Tryz.prog 8 [v60, v111, v120] s119 fun v121 s122 =>
k83 v121 s122))
def p3_2 (v0 : Value) (s82 : Store) (x73 : Value) (v60 : Value) (k83 : Value → Store → Prop) : Prop :=
vop (faddr 2 v0) s82 fun v84 s85 =>
vop (loadV false 1 v84 s85.get) s85 fun v86 s87 =>
vop (iaddrS 1026 v86 x73) s87 fun v88 s89 =>
vop (faddr 0 v88) s89 fun v90 s91 =>
vop (loadV false 1 v90 s91.get) s91 fun v92 s93 =>
vop (binI .eql v92 (.int .u8 2)) s93 fun v94 s95 =>
condH v94 (
Does Tryz.prog 7 [v60] s95 fun v96 s97 =>
k83 v96 s97) (
vop (faddr 2 v0) s95 fun v98 s99 =>
vop (loadV false 1 v98 s95.get) s99 fun v100 _ =>
vop (iaddrS 1026 v100 x73) s99 fun v101 s102 =>
vop (faddr 1 v101) s102 fun v103 s104 =>
p3_1 v103 s95 s104 v0 x73 v60 k83)
def p3_3 (v190 : Value) (v153 : Value) (x186 : Value) (s191 : Store) (v129 : Value) (v155 : Value) (K : Value → Store → Prop) (n185 : Value → Store → Prop) (v0 : Value) (v60 : Value) (v147 : Value) : Prop :=
condH v190 (
vop (iaddrS 1 v153 x186) s191 fun v192 s193 =>
vop (loadV false 1 v192 s191.get) s193 fun v194 _ =>
vop (iaddrS 1026 v129 v194) s193 fun v195 s196 =>
vop (faddr 1 v195) s196 fun v197 s198 =>
vop (loadV false 1 v197 s191.get) s198 fun v199 _ =>
vop (iaddrS 1 v155 x186) s198 fun v200 s201 =>
vop (loadV false 1 v200 s191.get) s201 fun v202 _ =>
vop (binI .neq v199 v202) s201 fun v203 s204 =>
condH v203 (
K (.bool false) s204) (
vop (binI .add x186 (.int .i64 1)) s204 fun v205 s206 =>
n185 v205 s206)) (
vop (faddr 4 v0) s191 fun v207 s208 =>
vop (loadV false 1 v207 s191.get) s208 fun v209 _ =>
Does Tryz.prog 14 [v60, v209] s208 fun v210 s211 =>
vop (binI .eql v210 (.int .i64 0)) s211 fun v212 s213 =>
gop v212 true s213 (fun K => K v60 s213) fun v214 s215 =>
gop v212 true s215 (fun K => Does Tryz.prog 16 [v214] s215 K) fun v216 s217 =>
gop v212 true s217 (fun K => vop (loadV true 2 v147 s217.get) s217 K) fun v218 _ =>
kop (gsel v212 true (loadV true 2 v147) s211.get) v218 (
gop v212 true s217 (fun K => Does Tryz.prog 15 [v216, v218] s217 K) fun v219 s220 =>
vop (pickV v212 v219 (.bool false)) s220 fun v221 s222 =>
K v221 s222))
def p3_4 (v157 : Value) (s168 : Store) (K : Value → Store → Prop) (v161 : Value) (v167 : Value) (v153 : Value) (v155 : Value) (v129 : Value) (v0 : Value) (v60 : Value) (v147 : Value) : Prop :=
gop v157 false s168 (fun K => vop (binI .neq v161 v167) s168 K) fun v169 s170 =>
vop (pickV v157 (.bool true) v169) s170 fun v171 s172 =>
gop v171 false s172 (fun K => K v153 s172) fun v173 s174 =>
gop v171 false s174 (fun K => vop (lenSl v173) s174 K) fun v175 s176 =>
gop v171 false s176 (fun K => K v155 s176) fun v177 s178 =>
gop v171 false s178 (fun K => vop (lenSl v177) s178 K) fun v179 s180 =>
gop v171 false s180 (fun K => vop (binI .neq v175 v179) s180 K) fun v181 s182 =>
vop (pickV v171 (.bool true) v181) s182 fun v183 s184 =>
condH v183 (
K (.bool false) s184) (
lop 1 (fun (n185 : Value → Store → Prop) x186 s187 =>
vop (lenSl v153) s187 fun v188 s189 =>
vop (binI .lss x186 v188) s189 fun v190 s191 =>
p3_3 v190 v153 x186 s191 v129 v155 K n185 v0 v60 v147) (.int .i64 0) s184)
def p3_5 (v141 : Value) (s142 : Store) (v129 : Value) (v60 : Value) (K : Value → Store → Prop) (v0 : Value) : Prop :=
vop (extractV v141 0) s142 fun v143 s144 =>
vop (extractV v141 1) s144 fun v145 s146 =>
nop (some (.cells (unrle [(1, (.int .i64 0)), (1, (.slice none 0 0))]) none, ptrTo)) s146 fun v147 s148 =>
eop (storeV 2 v147 v143 s148) fun _ s150 =>
vop (lenSl v129) s150 fun v151 s152 =>
Does Tryz.prog 12 [v129, v151] s152 fun v153 s154 =>
Does Tryz.prog 13 [v60] s154 fun v155 s156 =>
vop (binI .neq v145 (.int .i64 0)) s156 fun v157 s158 =>
gop v157 false s158 (fun K => K v129 s158) fun v159 s160 =>
gop v157 false s160 (fun K => vop (lenSl v159) s160 K) fun v161 s162 =>
gop v157 false s162 (fun K => vop (faddr 2 v0) s162 K) fun v163 s164 =>
gop v157 false s164 (fun K => vop (loadV false 1 v163 s164.get) s164 K) fun v165 s166 =>
gop v157 false s166 (fun K => vop (lenSl v165) s166 K) fun v167 s168 =>
p3_4 v157 s168 K v161 v167 v153 v155 v129 v0 v60 v147
def p3_6 (v81 : Value) (v0 : Value) (s82 : Store) (x73 : Value) (v60 : Value) (K : Value → Store → Prop) (n72 : Value → Store → Prop) : Prop :=
condH v81 (
jop 1 (fun (k83 : Value → Store → Prop) =>
p3_2 v0 s82 x73 v60 k83) fun x123 s124 =>
vop (binI .neq x123 (.int .i64 0)) s124 fun v125 s126 =>
condH v125 (
K (.bool false) s126) (
vop (binI .add x73 (.int .i64 1)) s126 fun v127 s128 =>
n72 v127 s128)) (
Does Tryz.prog 10 [v60] s82 fun v129 s130 =>
vop (faddr 0 v0) s130 fun v131 s132 =>
vop (loadV true 2 v131 s132.get) s132 fun v133 s134 =>
vop (lenSl v129) s134 fun v135 s136 =>
vop (faddr 4 v0) s136 fun v137 s138 =>
vop (loadV false 1 v137 s138.get) s138 fun v139 s140 =>
Does Tryz.prog 11 [v133, v129, v135, v139] s140 fun v141 s142 =>
p3_5 v141 s142 v129 v60 K v0)
def p3_7 (v58 : Value) (s59 : Store) (K : Value → Store → Prop) (v0 : Value) : Prop :=
vop (extractV v58 0) s59 fun v60 s61 =>
vop (extractV v58 1) s61 fun v62 s63 =>
vop (binI .neq v62 (.int .i64 0)) s63 fun v64 s65 =>
gop v64 false s65 (fun K => K v60 s65) fun v66 s67 =>
gop v64 false s67 (fun K => vop (eqPn false v66 (.pointer none)) s67 K) fun v68 s69 =>
vop (pickV v64 (.bool true) v68) s69 fun v70 s71 =>
condH v70 (
K (.bool false) s71) (
lop 1 (fun (n72 : Value → Store → Prop) x73 s74 =>
vop (faddr 2 v0) s74 fun v75 s76 =>
vop (loadV false 1 v75 s76.get) s76 fun v77 s78 =>
vop (lenSl v77) s78 fun v79 s80 =>
vop (binI .lss x73 v79) s80 fun v81 s82 =>
p3_6 v81 v0 s82 x73 v60 K n72) (.int .i64 0) s71)
def p3_8 (v32 : Value) (s37 : Store) (K : Value → Store → Prop) (v36 : Value) (v0 : Value) : Prop :=
gop v32 false s37 (fun K => vop (lenSl v36) s37 K) fun v38 s39 =>
gop v32 false s39 (fun K => vop (binI .gtr v38 (.int .i64 60)) s39 K) fun v40 s41 =>
vop (pickV v32 (.bool true) v40) s41 fun v42 s43 =>
gop v42 false s43 (fun K => vop (faddr 4 v0) s43 K) fun v44 s45 =>
gop v42 false s45 (fun K => vop (loadV false 1 v44 s45.get) s45 K) fun v46 s47 =>
gop v42 false s47 (fun K => vop (lenSl v46) s47 K) fun v48 s49 =>
gop v42 false s49 (fun K => vop (binI .gtr v48 (.int .i64 120)) s49 K) fun v50 s51 =>
vop (pickV v42 (.bool true) v50) s51 fun v52 s53 =>
condH v52 (
K (.bool true) s53) (
vop (faddr 0 v0) s53 fun v54 s55 =>
vop (loadV true 2 v54 s55.get) s55 fun v56 s57 =>
Does Tryz.prog 6 [v56] s57 fun v58 s59 =>
p3_7 v58 s59 K v0)
def p3_9 (v10 : Value) (s11 : Store) (K : Value → Store → Prop) (v0 : Value) : Prop :=
vop (binI .lss v10 (.int .i64 1)) s11 fun v12 s13 =>
gop v12 false s13 (fun K => vop (faddr 0 v0) s13 K) fun v14 s15 =>
gop v12 false s15 (fun K => vop (faddr 0 v14) s15 K) fun v16 s17 =>
gop v12 false s17 (fun K => vop (loadV false 1 v16 s17.get) s17 K) fun v18 s19 =>
gop v12 false s19 (fun K => vop (binI .gtr v18 (.int .i64 9)) s19 K) fun v20 s21 =>
vop (pickV v12 (.bool true) v20) s21 fun v22 s23 =>
gop v22 false s23 (fun K => vop (faddr 0 v0) s23 K) fun v24 s25 =>
gop v22 false s25 (fun K => vop (loadV true 2 v24 s25.get) s25 K) fun v26 s27 =>
gop v22 false s27 (fun K => Does Tryz.prog 5 [v26] s27 K) fun v28 s29 =>
gop v22 false s29 (fun K => vop (binI .neq v28 (.int .i64 0)) s29 K) fun v30 s31 =>
vop (pickV v22 (.bool true) v30) s31 fun v32 s33 =>
gop v32 false s33 (fun K => vop (faddr 2 v0) s33 K) fun v34 s35 =>
gop v32 false s35 (fun K => vop (loadV false 1 v34 s35.get) s35 K) fun v36 s37 =>
p3_8 v32 s37 K v36 v0
/-- undercroft/undercroftlaw05.PastDisk -/
def p3 (K : Value → Store → Prop) (a0 : Value) (s : Store) : Prop :=
nop (boxN a0) s fun v0 s1 =>
Does Tryz.prog 4 [] s1 fun v2 s3 =>
vop (unV .not v2) s3 fun v4 s5 =>
condH v4 (
K (.bool false) s5) (
vop (faddr 0 v0) s5 fun v6 s7 =>
vop (faddr 0 v6) s7 fun v8 s9 =>
vop (loadV false 1 v8 s9.get) s9 fun v10 s11 =>
p3_9 v10 s11 K v0)
theorem e3 (K : Value → Store → Prop) (a0 : Value) (s : Store) : bodyT Tryz.prog Tryz.f3 [a0] s K = p3 K a0 s := by kernel_rfl
theorem d3 {K : Value → Store → Prop} {a0 : Value} {s : Store} (h : p3 K a0 s) : Does Tryz.prog 3 [a0] s K := does_of_print Tryz.func3 (by kernel_rfl) ((e3 K a0 s).symm ▸ h)
def p4_1 (v98 : Value) (v107 : Value) (s108 : Store) (K : Value → Store → Prop) (v48 : Value) (v2 : Value) : Prop :=
vop (pickV v98 v107 (.bool false)) s108 fun v109 s110 =>
gop v109 true s110 (fun K => K v48 s110) fun v111 s112 =>
gop v109 true s112 (fun K => nop (sliceOf 3 (buildL (List.replicate 3 (unrle [(1, (.int .i64 0))])) [(0, (.int .i64 2)), (1, (.int .i64 3)), (2, (.int .i64 4))])) s112 K) fun v113 s114 =>
gop v109 true s114 (fun K => Does Tryz.prog 19 [v111, v113] s114 K) fun v115 s116 =>
vop (pickV v109 v115 (.bool false)) s116 fun v117 s118 =>
gop v117 true s118 (fun K => vop (loadV true 2 v2 s116.get) s118 K) fun v119 _ =>
gop v117 true s118 (fun K => Does Tryz.prog 5 [v119] s118 K) fun v120 s121 =>
gop v117 true s121 (fun K => vop (binI .eql v120 (.int .i64 0)) s121 K) fun v122 s123 =>
vop (pickV v117 v122 (.bool false)) s123 fun v124 s125 =>
gop v124 true s125 (fun K => vop (aggOf (buildL [(unrle [(1, (.int .i64 0))]), (unrle [(1, (.slice none 0 0))])] [])) s125 K) fun v126 s127 =>
gop v124 true s127 (fun K => Does Tryz.prog 5 [v126] s127 K) fun v128 s129 =>
gop v124 true s129 (fun K => vop (binI .neq v128 (.int .i64 0)) s129 K) fun v130 s131 =>
vop (pickV v124 v130 (.bool false)) s131 fun v132 s133 =>
K v132 s133
def p4_2 (v87 : Value) (s88 : Store) (K : Value → Store → Prop) (v44 : Value) (s68 : Store) (v48 : Value) (v2 : Value) : Prop :=
gop v87 true s88 (fun K => Does Tryz.prog 17 [(.int .u8 1)] s88 K) fun v89 s90 =>
gop v87 true s90 (fun K => K v44 s90) fun v91 s92 =>
gop v87 true s92 (fun K => vop (iaddrS 1024 v91 (.int .i64 0)) s92 K) fun v93 s94 =>
gop v87 true s94 (fun K => vop (loadV true 1024 v93 s90.get) s94 K) fun v95 _ =>
kop (gsel v87 true (loadV true 1024 v93) s68.get) v95 (
gop v87 true s94 (fun K => vop (eqA (.ints .u8 1024) false v95 v89) s94 K) fun v96 s97 =>
vop (pickV v87 v96 (.bool false)) s97 fun v98 s99 =>
gop v98 true s99 (fun K => Does Tryz.prog 17 [(.int .u8 2)] s99 K) fun v100 s101 =>
gop v98 true s101 (fun K => K v44 s101) fun v102 s103 =>
gop v98 true s103 (fun K => vop (iaddrS 1024 v102 (.int .i64 1)) s103 K) fun v104 s105 =>
gop v98 true s105 (fun K => vop (loadV true 1024 v104 s101.get) s105 K) fun v106 _ =>
kop (gsel v98 true (loadV true 1024 v104) s90.get) v106 (
gop v98 true s105 (fun K => vop (eqA (.ints .u8 1024) false v106 v100) s105 K) fun v107 s108 =>
p4_1 v98 v107 s108 K v48 v2))
def p4_3 (v65 : Value) (s68 : Store) (K : Value → Store → Prop) (v36 : Value) (s49 : Store) (v67 : Value) (v44 : Value) (v48 : Value) (v2 : Value) : Prop :=
gop v65 true s68 (fun K => vop (faddr 1 v36) s68 K) fun v69 s70 =>
gop v65 true s70 (fun K => vop (loadV false 1 v69 s68.get) s70 K) fun v71 _ =>
kop (gsel v65 true (loadV false 1 v69) s49.get) v71 (
gop v65 true s70 (fun K => vop (iaddrS 1025 v71 (.int .i64 0)) s70 K) fun v72 s73 =>
gop v65 true s73 (fun K => vop (loadV true 1025 v72 s68.get) s73 K) fun v74 _ =>
kop (gsel v65 true (loadV true 1025 v72) s49.get) v74 (
gop v65 true s73 (fun K => vop (aggOf (buildL [(unrle [(1, (.int .i64 0))]), (unrle [(1024, (.int .u8 0))])] [(0, (.int .i64 1)), (1, v67)])) s73 K) fun v75 s76 =>
gop v65 true s76 (fun K => vop (eqA (.fields [(0, 1, (.one (.int .i64))), (1, 1024, (.ints .u8 1024))]) false v74 v75) s76 K) fun v77 s78 =>
vop (pickV v65 v77 (.bool false)) s78 fun v79 s80 =>
gop v79 true s80 (fun K => K v44 s80) fun v81 s82 =>
gop v79 true s82 (fun K => vop (lenSl v81) s82 K) fun v83 s84 =>
gop v79 true s84 (fun K => vop (binI .eql v83 (.int .i64 2)) s84 K) fun v85 s86 =>
vop (pickV v79 v85 (.bool false)) s86 fun v87 s88 =>
p4_2 v87 s88 K v44 s68 v48 v2))
def p4_4 (v42 : Value) (s43 : Store) (v24 : Value) (v34 : Value) (K : Value → Store → Prop) (v36 : Value) (v2 : Value) : Prop :=
vop (extractV v42 0) s43 fun v44 s45 =>
vop (extractV v42 1) s45 fun v46 s47 =>
Does Tryz.prog 12 [v24, (.int .i64 5)] s47 fun v48 s49 =>
vop (binI .eql v34 (.int .i64 0)) s49 fun v50 s51 =>
gop v50 true s51 (fun K => K v46 s51) fun v52 s53 =>
gop v50 true s53 (fun K => vop (binI .eql v52 (.int .i64 0)) s53 K) fun v54 s55 =>
vop (pickV v50 v54 (.bool false)) s55 fun v56 s57 =>
gop v56 true s57 (fun K => vop (faddr 1 v36) s57 K) fun v58 s59 =>
gop v56 true s59 (fun K => vop (loadV false 1 v58 s49.get) s59 K) fun v60 _ =>
gop v56 true s59 (fun K => vop (lenSl v60) s59 K) fun v61 s62 =>
gop v56 true s62 (fun K => vop (binI .eql v61 (.int .i64 1)) s62 K) fun v63 s64 =>
vop (pickV v56 v63 (.bool false)) s64 fun v65 s66 =>
gop v65 true s66 (fun K => Does Tryz.prog 17 [(.int .u8 2)] s66 K) fun v67 s68 =>
p4_3 v65 s68 K v36 s49 v67 v44 v48 v2
def p4_5 (v16 : Value) (s17 : Store) (v8 : Value) (v10 : Value) (v14 : Value) (v2 : Value) (K : Value → Store → Prop) : Prop :=
vop (aggOf (buildL [(unrle [(1, (.int .u8 0))]), (unrle [(1, (.int .i64 0))]), (unrle [(1024, (.int .u8 0))])] [(0, (.int .u8 1)), (1, (.int .i64 2)), (2, v16)])) s17 fun v18 s19 =>
Does Tryz.prog 17 [(.int .u8 1)] s19 fun v20 s21 =>
vop (aggOf (buildL [(unrle [(1, (.int .u8 0))]), (unrle [(1, (.int .i64 0))]), (unrle [(1024, (.int .u8 0))])] [(0, (.int .u8 1)), (1, (.int .i64 1)), (2, v20)])) s21 fun v22 s23 =>
nop (sliceOf 5 (buildL (List.replicate 5 (unrle [(1, (.int .u8 0)), (1, (.int .i64 0)), (1024, (.int .u8 0))])) [(0, v8), (1, v10), (2, v14), (3, v18), (4, v22)])) s23 fun v24 s25 =>
vop (loadV true 2 v2 s25.get) s25 fun v26 s27 =>
nop (sliceOf 1 (buildL (List.replicate 1 (unrle [(1, (.bool false))])) [(0, (.bool true))])) s27 fun v28 s29 =>
Does Tryz.prog 11 [v26, v24, (.int .i64 5), v28] s29 fun v30 s31 =>
vop (extractV v30 0) s31 fun v32 s33 =>
vop (extractV v30 1) s33 fun v34 s35 =>
nop (some (.cells (unrle [(1, (.int .i64 0)), (1, (.slice none 0 0))]) none, ptrTo)) s35 fun v36 s37 =>
eop (storeV 2 v36 v32 s37) fun _ s39 =>
vop (loadV true 2 v2 s39.get) s39 fun v40 s41 =>
Does Tryz.prog 18 [v40, v24, (.int .i64 5), (.int .i64 1)] s41 fun v42 s43 =>
p4_4 v42 s43 v24 v34 K v36 v2
/-- undercroft/undercroftlaw05.lives -/
def p4 (K : Value → Store → Prop) (s : Store) : Prop :=
vop (aggOf (buildL [(unrle [(1, (.int .i64 0))]), (unrle [(1, (.slice none 0 0))])] [(0, (.int .i64 4))])) s fun v0 s1 =>
nop (some (.cells (unrle [(1, (.int .i64 0)), (1, (.slice none 0 0))]) none, ptrTo)) s1 fun v2 s3 =>
eop (storeV 2 v2 v0 s3) fun _ s5 =>
Does Tryz.prog 17 [(.int .u8 1)] s5 fun v6 s7 =>
vop (aggOf (buildL [(unrle [(1, (.int .u8 0))]), (unrle [(1, (.int .i64 0))]), (unrle [(1024, (.int .u8 0))])] [(0, (.int .u8 1)), (1, (.int .i64 1)), (2, v6)])) s7 fun v8 s9 =>
vop (aggOf (buildL [(unrle [(1, (.int .u8 0))]), (unrle [(1, (.int .i64 0))]), (unrle [(1024, (.int .u8 0))])] [(0, (.int .u8 2))])) s9 fun v10 s11 =>
Does Tryz.prog 17 [(.int .u8 2)] s11 fun v12 s13 =>
vop (aggOf (buildL [(unrle [(1, (.int .u8 0))]), (unrle [(1, (.int .i64 0))]), (unrle [(1024, (.int .u8 0))])] [(0, (.int .u8 1)), (1, (.int .i64 1)), (2, v12)])) s13 fun v14 s15 =>
Does Tryz.prog 17 [(.int .u8 3)] s15 fun v16 s17 =>
p4_5 v16 s17 v8 v10 v14 v2 K
theorem e4 (K : Value → Store → Prop) (s : Store) : bodyT Tryz.prog Tryz.f4 [] s K = p4 K s := by kernel_rfl
theorem d4 {K : Value → Store → Prop} {s : Store} (h : p4 K s) : Does Tryz.prog 4 [] s K := does_of_print Tryz.func4 (by kernel_rfl) ((e4 K s).symm ▸ h)
/-- undercroft/past.Whole -/
def p5 (K : Value → Store → Prop) (a0 : Value) (s : Store) : Prop :=
nop (boxN a0) s fun v0 s1 =>
vop (faddr 0 v0) s1 fun v2 s3 =>
vop (loadV false 1 v2 s3.get) s3 fun v4 s5 =>
vop (binI .lss v4 (.int .i64 1)) s5 fun v6 s7 =>
gop v6 false s7 (fun K => vop (faddr 0 v0) s7 K) fun v8 s9 =>
gop v6 false s9 (fun K => vop (loadV false 1 v8 s9.get) s9 K) fun v10 s11 =>
gop v6 false s11 (fun K => vop (binI .gtr v10 (.int .i64 1048576)) s11 K) fun v12 s13 =>
vop (pickV v6 (.bool true) v12) s13 fun v14 s15 =>
condH v14 (
K (.int .i64 2) s15) (
vop (faddr 1 v0) s15 fun v16 s17 =>
vop (loadV false 1 v16 s17.get) s17 fun v18 s19 =>
vop (lenSl v18) s19 fun v20 s21 =>
lop 2 (fun (n22 : Value → Value → Store → Prop) x23 x24 s25 =>
vop (binI .lss x24 v20) s25 fun v26 s27 =>
condH v26 (
vop (iaddrS 1025 v18 x24) s27 fun v28 s29 =>
vop (loadV true 1025 v28 s29.get) s29 fun v30 s31 =>
nop (some (.cells (unrle [(1, (.int .i64 0)), (1024, (.int .u8 0))]) none, ptrTo)) s31 fun v32 s33 =>
eop (storeV 1025 v32 v30 s33) fun _ s35 =>
vop (faddr 0 v32) s35 fun v36 s37 =>
vop (loadV false 1 v36 s37.get) s37 fun v38 s39 =>
vop (binI .leq v38 x23) s39 fun v40 s41 =>
gop v40 false s41 (fun K => vop (faddr 0 v32) s41 K) fun v42 s43 =>
gop v40 false s43 (fun K => vop (loadV false 1 v42 s43.get) s43 K) fun v44 s45 =>
gop v40 false s45 (fun K => vop (faddr 0 v0) s45 K) fun v46 s47 =>
gop v40 false s47 (fun K => vop (loadV false 1 v46 s47.get) s47 K) fun v48 s49 =>
gop v40 false s49 (fun K => vop (binI .geq v44 v48) s49 K) fun v50 s51 =>
vop (pickV v40 (.bool true) v50) s51 fun v52 s53 =>
gop v52 false s53 (fun K => vop (faddr 1 v32) s53 K) fun v54 s55 =>
gop v52 false s55 (fun K => vop (loadV true 1024 v54 s55.get) s55 K) fun v56 s57 =>
gop v52 false s57 (fun K => vop (aggOf (buildL (List.replicate 1024 (unrle [(1, (.int .u8 0))])) [])) s57 K) fun v58 s59 =>
gop v52 false s59 (fun K => vop (eqA (.ints .u8 1024) false v56 v58) s59 K) fun v60 s61 =>
vop (pickV v52 (.bool true) v60) s61 fun v62 s63 =>
condH v62 (
K (.int .i64 2) s63) (
vop (faddr 0 v32) s63 fun v64 s65 =>
vop (loadV false 1 v64 s65.get) s65 fun v66 s67 =>
vop (binI .add x24 (.int .i64 1)) s67 fun v68 s69 =>
n22 v66 v68 s69)) (
K (.int .i64 0) s27)) (.int .i64 (-1)) (.int .i64 0) s21)
theorem e5 (K : Value → Store → Prop) (a0 : Value) (s : Store) : bodyT Tryz.prog Tryz.f5 [a0] s K = p5 K a0 s := by kernel_rfl
theorem d5 {K : Value → Store → Prop} {a0 : Value} {s : Store} (h : p5 K a0 s) : Does Tryz.prog 5 [a0] s K := does_of_print Tryz.func5 (by kernel_rfl) ((e5 K a0 s).symm ▸ h)
def p6_1 (v60 : Value) (K : Value → Store → Prop) (s61 : Store) (v8 : Value) (v30 : Value) (x22 : Value) (n20 : Value → Value → Store → Prop) : Prop :=
condH v60 (
K (.tuple #[(.pointer none), (.int .i64 4)]) s61) (
vop (nilV v8) s61 fun v62 s63 =>
vop (faddr 1 v62) s63 fun v64 s65 =>
vop (loadV false 1 v64 s61.get) s65 fun v66 _ =>
vop (faddr 0 v30) s65 fun v67 s68 =>
vop (loadV false 1 v67 s61.get) s68 fun v69 _ =>
vop (faddr 1 v30) s68 fun v70 s71 =>
vop (loadV true 1024 v70 s61.get) s71 fun v72 _ =>
eop (updH (.int .i64) v66 v69 v72 s71) fun _ s74 =>
vop (faddr 0 v30) s74 fun v75 s76 =>
vop (loadV false 1 v75 s76.get) s76 fun v77 s78 =>
vop (binI .add x22 (.int .i64 1)) s78 fun v79 s80 =>
n20 v77 v79 s80)
def p6_2 (v34 : Value) (s35 : Store) (x21 : Value) (K : Value → Store → Prop) (v30 : Value) (v0 : Value) (v8 : Value) (x22 : Value) (n20 : Value → Value → Store → Prop) : Prop :=
vop (loadV false 1 v34 s35.get) s35 fun v36 s37 =>
vop (binI .leq v36 x21) s37 fun v38 s39 =>
gop v38 false s39 (fun K => vop (faddr 0 v30) s39 K) fun v40 s41 =>
gop v38 false s41 (fun K => vop (loadV false 1 v40 s41.get) s41 K) fun v42 s43 =>
gop v38 false s43 (fun K => vop (faddr 0 v0) s43 K) fun v44 s45 =>
gop v38 false s45 (fun K => vop (loadV false 1 v44 s45.get) s45 K) fun v46 s47 =>
gop v38 false s47 (fun K => vop (binI .geq v42 v46) s47 K) fun v48 s49 =>
vop (pickV v38 (.bool true) v48) s49 fun v50 s51 =>
gop v50 false s51 (fun K => vop (faddr 1 v30) s51 K) fun v52 s53 =>
gop v50 false s53 (fun K => vop (loadV true 1024 v52 s53.get) s53 K) fun v54 s55 =>
gop v50 false s55 (fun K => vop (aggOf (buildL (List.replicate 1024 (unrle [(1, (.int .u8 0))])) [])) s55 K) fun v56 s57 =>
gop v50 false s57 (fun K => vop (eqA (.ints .u8 1024) false v54 v56) s57 K) fun v58 s59 =>
vop (pickV v50 (.bool true) v58) s59 fun v60 s61 =>
p6_1 v60 K s61 v8 v30 x22 n20
def p6_3 (v12 : Value) (K : Value → Store → Prop) (s13 : Store) (v0 : Value) (v8 : Value) : Prop :=
condH v12 (
K (.tuple #[(.pointer none), (.int .i64 4)]) s13) (
vop (faddr 1 v0) s13 fun v14 s15 =>
vop (loadV false 1 v14 s15.get) s15 fun v16 s17 =>
vop (lenSl v16) s17 fun v18 s19 =>
lop 2 (fun (n20 : Value → Value → Store → Prop) x21 x22 s23 =>
vop (binI .lss x22 v18) s23 fun v24 s25 =>
condH v24 (
vop (iaddrS 1025 v16 x22) s25 fun v26 s27 =>
vop (loadV true 1025 v26 s27.get) s27 fun v28 s29 =>
nop (some (.cells (unrle [(1, (.int .i64 0)), (1024, (.int .u8 0))]) none, ptrTo)) s29 fun v30 s31 =>
eop (storeV 1025 v30 v28 s31) fun _ s33 =>
vop (faddr 0 v30) s33 fun v34 s35 =>
p6_2 v34 s35 x21 K v30 v0 v8 x22 n20) (
K (.tuple #[v8, (.int .i64 0)]) s25)) (.int .i64 (-1)) (.int .i64 0) s19)
/-- undercroft/disk.Load -/
def p6 (K : Value → Store → Prop) (a0 : Value) (s : Store) : Prop :=
nop (boxN a0) s fun v0 s1 =>
vop (faddr 0 v0) s1 fun v2 s3 =>
vop (loadV false 1 v2 s3.get) s3 fun v4 s5 =>
Does Tryz.prog 20 [v4] s5 fun v6 s7 =>
vop (extractV v6 0) s7 fun v8 s9 =>
vop (extractV v6 1) s9 fun v10 s11 =>
vop (binI .neq v10 (.int .i64 0)) s11 fun v12 s13 =>
p6_3 v12 K s13 v0 v8
theorem e6 (K : Value → Store → Prop) (a0 : Value) (s : Store) : bodyT Tryz.prog Tryz.f6 [a0] s K = p6 K a0 s := by kernel_rfl
theorem d6 {K : Value → Store → Prop} {a0 : Value} {s : Store} (h : p6 K a0 s) : Does Tryz.prog 6 [a0] s K := does_of_print Tryz.func6 (by kernel_rfl) ((e6 K a0 s).symm ▸ h)
/-- (*undercroft/disk.Disk).Barrier -/
def p7 (K : Value → Store → Prop) (a0 : Value) (s : Store) : Prop :=
Does Tryz.prog 21 [a0] s fun v0 s1 =>
vop (binI .neq v0 (.int .i64 0)) s1 fun v2 s3 =>
condH v2 (
K v0 s3) (
Does Tryz.prog 22 [a0] s3 fun v4 s5 =>
vop (unV .not v4) s5 fun v6 s7 =>
condH v6 (
K (.int .i64 3) s7) (
vop (nilV a0) s7 fun v8 s9 =>
vop (faddr 3 v8) s9 fun v10 s11 =>
vop (loadV false 1 v10 s11.get) s11 fun v12 s13 =>
vop (lenSl v12) s13 fun v14 s15 =>
lop 1 (fun (n16 : Value → Store → Prop) x17 s18 =>
vop (binI .lss x17 v14) s18 fun v19 s20 =>
condH v19 (
vop (iaddrS 1025 v12 x17) s20 fun v21 s22 =>
vop (loadV true 1025 v21 s22.get) s22 fun v23 s24 =>
nop (some (.cells (unrle [(1, (.int .i64 0)), (1024, (.int .u8 0))]) none, ptrTo)) s24 fun v25 s26 =>
eop (storeV 1025 v25 v23 s26) fun _ s28 =>
vop (loadV true 1025 v25 s28.get) s28 fun v29 s30 =>
Does Tryz.prog 23 [a0, v29] s30 fun _ s32 =>
vop (binI .add x17 (.int .i64 1)) s32 fun v33 s34 =>
n16 v33 s34) (
vop (nilV a0) s20 fun v35 s36 =>
vop (faddr 3 v35) s36 fun v37 s38 =>
eop (storeV 1 v37 (.slice none 0 0) s38) fun _ s40 =>
vop (nilV a0) s40 fun v41 s42 =>
vop (faddr 2 v41) s42 fun v43 s44 =>
vop (loadV false 1 v43 s44.get) s44 fun v45 s46 =>
eop (clearV v45 s46) fun _ s48 =>
vop (nilV a0) s48 fun v49 s50 =>
vop (faddr 4 v49) s50 fun v51 s52 =>
vop (loadV false 1 v51 s52.get) s52 fun v53 s54 =>
vop (aggOf (buildL [(unrle [(1, (.int .u8 0))]), (unrle [(1, (.int .i64 0))]), (unrle [(1024, (.int .u8 0))])] [(0, (.int .u8 2))])) s54 fun v55 s56 =>
nop (sliceOf 1 (buildL (List.replicate 1 (unrle [(1, (.int .u8 0)), (1, (.int .i64 0)), (1024, (.int .u8 0))])) [(0, v55)])) s56 fun v57 s58 =>
eop (appendV 1026 1040 v53 v57 s58) fun v59 s60 =>
vop (nilV a0) s60 fun v61 s62 =>
vop (faddr 4 v61) s62 fun v63 s64 =>
eop (storeV 1 v63 v59 s64) fun _ s66 =>
K (.int .i64 0) s66)) (.int .i64 0) s15))
theorem e7 (K : Value → Store → Prop) (a0 : Value) (s : Store) : bodyT Tryz.prog Tryz.f7 [a0] s K = p7 K a0 s := by kernel_rfl
theorem d7 {K : Value → Store → Prop} {a0 : Value} {s : Store} (h : p7 K a0 s) : Does Tryz.prog 7 [a0] s K := does_of_print Tryz.func7 (by kernel_rfl) ((e7 K a0 s).symm ▸ h)
def p8_1 (v46 : Value) (s43 : Store) (s47 : Store) (v0 : Value) (a1 : Value) (a0 : Value) (K : Value → Store → Prop) : Prop :=
vop (loadV false 1 v46 s43.get) s47 fun v48 _ =>
vop (loadV true 1024 v0 s43.get) s47 fun v49 _ =>
eop (updH (.int .i64) v48 a1 v49 s47) fun _ s51 =>
vop (nilV a0) s51 fun v52 s53 =>
vop (faddr 4 v52) s53 fun v54 s55 =>
vop (loadV false 1 v54 s51.get) s55 fun v56 _ =>
vop (loadV true 1024 v0 s51.get) s55 fun v57 _ =>
vop (aggOf (buildL [(unrle [(1, (.int .u8 0))]), (unrle [(1, (.int .i64 0))]), (unrle [(1024, (.int .u8 0))])] [(0, (.int .u8 1)), (1, a1), (2, v57)])) s55 fun v58 s59 =>
nop (sliceOf 1 (buildL (List.replicate 1 (unrle [(1, (.int .u8 0)), (1, (.int .i64 0)), (1024, (.int .u8 0))])) [(0, v58)])) s59 fun v60 s61 =>
eop (appendV 1026 1040 v56 v60 s61) fun v62 s63 =>
vop (nilV a0) s63 fun v64 s65 =>
vop (faddr 4 v64) s65 fun v66 s67 =>
eop (storeV 1 v66 v62 s67) fun _ s69 =>
K (.int .i64 0) s69
def p8_2 (v24 : Value) (K : Value → Store → Prop) (s25 : Store) (a0 : Value) (v0 : Value) (a1 : Value) : Prop :=
condH v24 (
K (.int .i64 3) s25) (
vop (nilV a0) s25 fun v26 s27 =>
vop (faddr 3 v26) s27 fun v28 s29 =>
vop (loadV false 1 v28 s25.get) s29 fun v30 _ =>
vop (loadV true 1024 v0 s25.get) s29 fun v31 _ =>
vop (aggOf (buildL [(unrle [(1, (.int .i64 0))]), (unrle [(1024, (.int .u8 0))])] [(0, a1), (1, v31)])) s29 fun v32 s33 =>
nop (sliceOf 1 (buildL (List.replicate 1 (unrle [(1, (.int .i64 0)), (1024, (.int .u8 0))])) [(0, v32)])) s33 fun v34 s35 =>
eop (appendV 1025 1032 v30 v34 s35) fun v36 s37 =>
vop (nilV a0) s37 fun v38 s39 =>
vop (faddr 3 v38) s39 fun v40 s41 =>
eop (storeV 1 v40 v36 s41) fun _ s43 =>
vop (nilV a0) s43 fun v44 s45 =>
vop (faddr 2 v44) s45 fun v46 s47 =>
p8_1 v46 s43 s47 v0 a1 a0 K)
def p8_3 (v4 : Value) (K : Value → Store → Prop) (v2 : Value) (s5 : Store) (a1 : Value) (a0 : Value) (v0 : Value) : Prop :=
condH v4 (
K v2 s5) (
vop (binI .lss a1 (.int .i64 0)) s5 fun v6 s7 =>
gop v6 false s7 (fun K => K a1 s7) fun v8 s9 =>
gop v6 false s9 (fun K => K a0 s9) fun v10 s11 =>
gop v6 false s11 (fun K => vop (nilV v10) s11 K) fun v12 s13 =>
gop v6 false s13 (fun K => vop (faddr 0 v12) s13 K) fun v14 s15 =>
gop v6 false s15 (fun K => vop (loadV false 1 v14 s15.get) s15 K) fun v16 s17 =>
gop v6 false s17 (fun K => vop (binI .geq v8 v16) s17 K) fun v18 s19 =>
vop (pickV v6 (.bool true) v18) s19 fun v20 s21 =>
condH v20 (
K (.int .i64 2) s21) (
Does Tryz.prog 22 [a0] s21 fun v22 s23 =>
vop (unV .not v22) s23 fun v24 s25 =>
p8_2 v24 K s25 a0 v0 a1))
/-- (*undercroft/disk.Disk).Write -/
def p8 (K : Value → Store → Prop) (a0 a1 a2 : Value) (s : Store) : Prop :=
nop (boxN a2) s fun v0 s1 =>
Does Tryz.prog 21 [a0] s1 fun v2 s3 =>
vop (binI .neq v2 (.int .i64 0)) s3 fun v4 s5 =>
p8_3 v4 K v2 s5 a1 a0 v0
theorem e8 (K : Value → Store → Prop) (a0 a1 a2 : Value) (s : Store) : bodyT Tryz.prog Tryz.f8 [a0, a1, a2] s K = p8 K a0 a1 a2 s := by kernel_rfl
theorem d8 {K : Value → Store → Prop} {a0 a1 a2 : Value} {s : Store} (h : p8 K a0 a1 a2 s) : Does Tryz.prog 8 [a0, a1, a2] s K := does_of_print Tryz.func8 (by kernel_rfl) ((e8 K a0 a1 a2 s).symm ▸ h)
/-- undercroft/undercroftkit.Pick -/
def p9 (K : Value → Store → Prop) (a0 a1 : Value) (s : Store) : Prop :=
vop (binI .rem a0 a1) s fun v0 s1 =>
jop 1 (fun (k2 : Value → Store → Prop) =>
vop (binI .lss v0 (.int .i64 0)) s1 fun v3 s4 =>
condH v3 (
vop (binI .add v0 a1) s4 fun v5 s6 =>
k2 v5 s6) (
k2 v0 s4)) fun x7 s8 =>
K x7 s8
theorem e9 (K : Value → Store → Prop) (a0 a1 : Value) (s : Store) : bodyT Tryz.prog Tryz.f9 [a0, a1] s K = p9 K a0 a1 s := by kernel_rfl
theorem d9 {K : Value → Store → Prop} {a0 a1 : Value} {s : Store} (h : p9 K a0 a1 s) : Does Tryz.prog 9 [a0, a1] s K := does_of_print Tryz.func9 (by kernel_rfl) ((e9 K a0 a1 s).symm ▸ h)
/-- (*undercroft/disk.Disk).History -/
def p10 (K : Value → Store → Prop) (a0 : Value) (s : Store) : Prop :=
Does Tryz.prog 24 [a0] s fun v0 s1 =>
vop (unV .not v0) s1 fun v2 s3 =>
condH v2 (
K (.slice none 0 0) s3) (
vop (nilV a0) s3 fun v4 s5 =>
vop (faddr 4 v4) s5 fun v6 s7 =>
vop (loadV false 1 v6 s7.get) s7 fun v8 s9 =>
eop (appendV 1026 1040 (.slice none 0 0) v8 s9) fun v10 s11 =>
K v10 s11)
theorem e10 (K : Value → Store → Prop) (a0 : Value) (s : Store) : bodyT Tryz.prog Tryz.f10 [a0] s K = p10 K a0 s := by kernel_rfl
theorem d10 {K : Value → Store → Prop} {a0 : Value} {s : Store} (h : p10 K a0 s) : Does Tryz.prog 10 [a0] s K := does_of_print Tryz.func10 (by kernel_rfl) ((e10 K a0 s).symm ▸ h)
def p11_1 (v74 : Value) (s75 : Store) (a3 : Value) (x69 : Value) (K : Value → Store → Prop) (a1 : Value) (v35 : Value) (k73 : Store → Prop) : Prop :=
vop (loadV false 1 v74 s75.get) s75 fun v76 s77 =>
vop (lenSl a3) s77 fun v78 s79 =>
vop (binI .lss x69 v78) s79 fun v80 s81 =>
gop v80 true s81 (fun K => K a3 s81) fun v82 s83 =>
gop v80 true s83 (fun K => K x69 s83) fun v84 s85 =>
gop v80 true s85 (fun K => vop (iaddrS 1 v82 v84) s85 K) fun v86 s87 =>
gop v80 true s87 (fun K => vop (loadV false 1 v86 s87.get) s87 K) fun v88 s89 =>
vop (pickV v80 v88 (.bool false)) s89 fun v90 s91 =>
condH v90 (
vop (iaddrS 1026 a1 v76) s91 fun v92 s93 =>
vop (loadV true 1026 v92 s93.get) s93 fun v94 s95 =>
cop Tryz.prog (callD Tryz.prog (.func (.func 27) #[] #[v35]) [v94]) s95 fun _ s97 =>
k73 s97) (
k73 s91)
def p11_2 (x69 : Value) (v66 : Value) (s70 : Store) (v64 : Value) (a3 : Value) (K : Value → Store → Prop) (a1 : Value) (v35 : Value) (n68 : Value → Store → Prop) (v0 : Value) (v2 : Value) : Prop :=
vop (binI .lss x69 v66) s70 fun v71 s72 =>
condH v71 (
jop 0 (fun (k73 : Store → Prop) =>
vop (iaddrS 1 v64 x69) s72 fun v74 s75 =>
p11_1 v74 s75 a3 x69 K a1 v35 k73) fun s98 =>
vop (binI .add x69 (.int .i64 1)) s98 fun v99 s100 =>
n68 v99 s100) (
vop (faddr 0 v0) s72 fun v101 s102 =>
vop (loadV false 1 v101 s102.get) s102 fun v103 s104 =>
vop (loadV false 1 v35 s104.get) s104 fun v105 s106 =>
Does Tryz.prog 29 [v103, v105] s106 fun v107 s108 =>
eop (storeV 2 v2 v107 s108) fun _ s110 =>
vop (loadV true 2 v2 s110.get) s110 fun v111 _ =>
K (.tuple #[v111, (.int .i64 0)]) s110)
def p11_3 (x46 : Value) (v43 : Value) (s47 : Store) (v41 : Value) (v35 : Value) (n45 : Value → Store → Prop) (a1 : Value) (a2 : Value) (a3 : Value) (K : Value → Store → Prop) (v0 : Value) (v2 : Value) : Prop :=
vop (binI .lss x46 v43) s47 fun v48 s49 =>
condH v48 (
vop (iaddrS 1026 v41 x46) s49 fun v50 s51 =>
vop (loadV true 1026 v50 s51.get) s51 fun v52 s53 =>
nop (some (.cells (unrle [(1, (.int .u8 0)), (1, (.int .i64 0)), (1024, (.int .u8 0))]) none, ptrTo)) s53 fun v54 s55 =>
eop (storeV 1026 v54 v52 s55) fun _ s57 =>
vop (loadV true 1026 v54 s57.get) s57 fun v58 s59 =>
cop Tryz.prog (callD Tryz.prog (.func (.func 27) #[] #[v35]) [v58]) s59 fun _ s61 =>
vop (binI .add x46 (.int .i64 1)) s61 fun v62 s63 =>
n45 v62 s63) (
Does Tryz.prog 12 [a1, a2] s49 fun v64 s65 =>
vop (lenSl v64) s65 fun v66 s67 =>
lop 1 (fun (n68 : Value → Store → Prop) x69 s70 =>
p11_2 x69 v66 s70 v64 a3 K a1 v35 n68 v0 v2) (.int .i64 0) s67)
def p11_4 (v24 : Value) (s25 : Store) (v2 : Value) (K : Value → Store → Prop) (v0 : Value) (a1 : Value) (a2 : Value) (a3 : Value) : Prop :=
condH v24 (
vop (aggOf (buildL [(unrle [(1, (.int .i64 0))]), (unrle [(1, (.slice none 0 0))])] [])) s25 fun v26 s27 =>
eop (storeV 2 v2 v26 s27) fun _ s29 =>
vop (loadV true 2 v2 s29.get) s29 fun v30 _ =>
K (.tuple #[v30, (.int .i64 2)]) s29) (
vop (loadV true 2 v0 s25.get) s25 fun v31 s32 =>
Does Tryz.prog 26 [v31] s32 fun v33 s34 =>
nop (some (.cells (unrle [(1, (.map none))]) none, ptrTo)) s34 fun v35 s36 =>
eop (storeV 1 v35 v33 s36) fun _ s38 =>
Does Tryz.prog 28 [a1, a2] s38 fun v39 s40 =>
vop (sliceSl 1026 a1 none (some v39)) s40 fun v41 s42 =>
vop (lenSl v41) s42 fun v43 s44 =>
lop 1 (fun (n45 : Value → Store → Prop) x46 s47 =>
p11_3 x46 v43 s47 v41 v35 n45 a1 a2 a3 K v0 v2) (.int .i64 0) s44)
/-- undercroft/past.After -/
def p11 (K : Value → Store → Prop) (a0 a1 a2 a3 : Value) (s : Store) : Prop :=
nop (boxN a0) s fun v0 s1 =>
nop (some (.cells (unrle [(1, (.int .i64 0)), (1, (.slice none 0 0))]) none, ptrTo)) s1 fun v2 s3 =>
vop (loadV true 2 v0 s3.get) s3 fun v4 s5 =>
Does Tryz.prog 25 [v4, a1] s5 fun v6 s7 =>
vop (unV .not v6) s7 fun v8 s9 =>
gop v8 false s9 (fun K => K a2 s9) fun v10 s11 =>
gop v8 false s11 (fun K => vop (binI .lss v10 (.int .i64 0)) s11 K) fun v12 s13 =>
vop (pickV v8 (.bool true) v12) s13 fun v14 s15 =>
gop v14 false s15 (fun K => K a2 s15) fun v16 s17 =>
gop v14 false s17 (fun K => K a1 s17) fun v18 s19 =>
gop v14 false s19 (fun K => vop (lenSl v18) s19 K) fun v20 s21 =>
gop v14 false s21 (fun K => vop (binI .gtr v16 v20) s21 K) fun v22 s23 =>
vop (pickV v14 (.bool true) v22) s23 fun v24 s25 =>
p11_4 v24 s25 v2 K v0 a1 a2 a3
theorem e11 (K : Value → Store → Prop) (a0 a1 a2 a3 : Value) (s : Store) : bodyT Tryz.prog Tryz.f11 [a0, a1, a2, a3] s K = p11 K a0 a1 a2 a3 s := by kernel_rfl
theorem d11 {K : Value → Store → Prop} {a0 a1 a2 a3 : Value} {s : Store} (h : p11 K a0 a1 a2 a3 s) : Does Tryz.prog 11 [a0, a1, a2, a3] s K := does_of_print Tryz.func11 (by kernel_rfl) ((e11 K a0 a1 a2 a3 s).symm ▸ h)
/-- undercroft/past.Pending -/
def p12 (K : Value → Store → Prop) (a0 a1 : Value) (s : Store) : Prop :=
vop (minMaxV true [a1, (.int .i64 0)]) s fun v0 s1 =>
vop (lenSl a0) s1 fun v2 s3 =>
vop (minMaxV false [v0, v2]) s3 fun v4 s5 =>
Does Tryz.prog 28 [a0, v4] s5 fun v6 s7 =>
lop 2 (fun (n8 : Value → Value → Store → Prop) x9 x10 s11 =>
vop (binI .lss x10 v4) s11 fun v12 s13 =>
condH v12 (
jop 1 (fun (k14 : Value → Store → Prop) =>
vop (iaddrS 1026 a0 x10) s13 fun v15 s16 =>
vop (faddr 0 v15) s16 fun v17 s18 =>
vop (loadV false 1 v17 s18.get) s18 fun v19 s20 =>
vop (binI .eql v19 (.int .u8 1)) s20 fun v21 s22 =>
condH v21 (
nop (sliceOf 1 (buildL (List.replicate 1 (unrle [(1, (.int .i64 0))])) [(0, x10)])) s22 fun v23 s24 =>
eop (appendV 1 8 x9 v23 s24) fun v25 s26 =>
k14 v25 s26) (
k14 x9 s22)) fun x27 s28 =>
vop (binI .add x10 (.int .i64 1)) s28 fun v29 s30 =>
n8 x27 v29 s30) (
K x9 s13)) (.slice none 0 0) v6 s7
theorem e12 (K : Value → Store → Prop) (a0 a1 : Value) (s : Store) : bodyT Tryz.prog Tryz.f12 [a0, a1] s K = p12 K a0 a1 s := by kernel_rfl
theorem d12 {K : Value → Store → Prop} {a0 a1 : Value} {s : Store} (h : p12 K a0 a1 s) : Does Tryz.prog 12 [a0, a1] s K := does_of_print Tryz.func12 (by kernel_rfl) ((e12 K a0 a1 s).symm ▸ h)
/-- (*undercroft/disk.Disk).Pending -/
def p13 (K : Value → Store → Prop) (a0 : Value) (s : Store) : Prop :=
Does Tryz.prog 24 [a0] s fun v0 s1 =>
vop (unV .not v0) s1 fun v2 s3 =>
condH v2 (
K (.slice none 0 0) s3) (
vop (nilV a0) s3 fun v4 s5 =>
vop (faddr 3 v4) s5 fun v6 s7 =>
vop (loadV false 1 v6 s7.get) s7 fun v8 s9 =>
vop (lenSl v8) s9 fun v10 s11 =>
lop 2 (fun (n12 : Value → Value → Store → Prop) x13 x14 s15 =>
vop (binI .lss x14 v10) s15 fun v16 s17 =>
condH v16 (
vop (iaddrS 1025 v8 x14) s17 fun v18 s19 =>
vop (loadV true 1025 v18 s19.get) s19 fun v20 s21 =>
nop (some (.cells (unrle [(1, (.int .i64 0)), (1024, (.int .u8 0))]) none, ptrTo)) s21 fun v22 s23 =>
eop (storeV 1025 v22 v20 s23) fun _ s25 =>
vop (faddr 0 v22) s25 fun v26 s27 =>
vop (loadV false 1 v26 s27.get) s27 fun v28 s29 =>
nop (sliceOf 1 (buildL (List.replicate 1 (unrle [(1, (.int .i64 0))])) [(0, v28)])) s29 fun v30 s31 =>
eop (appendV 1 8 x13 v30 s31) fun v32 s33 =>
vop (binI .add x14 (.int .i64 1)) s33 fun v34 s35 =>
n12 v32 v34 s35) (
K x13 s17)) (.slice none 0 0) (.int .i64 0) s11)
theorem e13 (K : Value → Store → Prop) (a0 : Value) (s : Store) : bodyT Tryz.prog Tryz.f13 [a0] s K = p13 K a0 s := by kernel_rfl
theorem d13 {K : Value → Store → Prop} {a0 : Value} {s : Store} (h : p13 K a0 s) : Does Tryz.prog 13 [a0] s K := does_of_print Tryz.func13 (by kernel_rfl) ((e13 K a0 s).symm ▸ h)
def p14_1 (s21 : Store) (v20 : Value) (a1 : Value) (x13 : Value) (K : Value → Store → Prop) (a0 : Value) (k17 : Store → Prop) : Prop :=
nop (some (.cells (unrle [(1, (.int .i64 0)), (1024, (.int .u8 0))]) none, ptrTo)) s21 fun v22 s23 =>
eop (storeV 1025 v22 v20 s23) fun _ s25 =>
vop (lenSl a1) s25 fun v26 s27 =>
vop (binI .lss x13 v26) s27 fun v28 s29 =>
gop v28 true s29 (fun K => K a1 s29) fun v30 s31 =>
gop v28 true s31 (fun K => K x13 s31) fun v32 s33 =>
gop v28 true s33 (fun K => vop (iaddrS 1 v30 v32) s33 K) fun v34 s35 =>
gop v28 true s35 (fun K => vop (loadV false 1 v34 s35.get) s35 K) fun v36 s37 =>
vop (pickV v28 v36 (.bool false)) s37 fun v38 s39 =>
condH v38 (
vop (loadV true 1025 v22 s39.get) s39 fun v40 s41 =>
Does Tryz.prog 23 [a0, v40] s41 fun _ s43 =>
k17 s43) (
k17 s39)
def p14_2 (a0 : Value) (s58 : Store) (K : Value → Store → Prop) : Prop :=
vop (nilV a0) s58 fun v59 s60 =>
vop (faddr 2 v59) s60 fun v61 s62 =>
vop (loadV false 1 v61 s62.get) s62 fun v63 s64 =>
eop (clearV v63 s64) fun _ s66 =>
vop (nilV a0) s66 fun v67 s68 =>
vop (faddr 6 v67) s68 fun v69 s70 =>
eop (storeV 1 v69 (.bool false) s70) fun _ s72 =>
vop (nilV a0) s72 fun v73 s74 =>
vop (faddr 5 v73) s74 fun v75 s76 =>
eop (storeV 1 v75 (.int .i64 (-1)) s76) fun _ s78 =>
vop (nilV a0) s78 fun v79 s80 =>
vop (faddr 10 v79) s80 fun v81 s82 =>
eop (storeV 1 v81 (.int .i64 0) s82) fun _ s84 =>
K (.int .i64 0) s84
def p14_3 (v15 : Value) (v8 : Value) (x13 : Value) (s16 : Store) (a1 : Value) (K : Value → Store → Prop) (a0 : Value) (n12 : Value → Store → Prop) : Prop :=
condH v15 (
jop 0 (fun (k17 : Store → Prop) =>
vop (iaddrS 1025 v8 x13) s16 fun v18 s19 =>
vop (loadV true 1025 v18 s19.get) s19 fun v20 s21 =>
p14_1 s21 v20 a1 x13 K a0 k17) fun s44 =>
vop (binI .add x13 (.int .i64 1)) s44 fun v45 s46 =>
n12 v45 s46) (
vop (nilV a0) s16 fun v47 s48 =>
vop (faddr 3 v47) s48 fun v49 s50 =>
eop (storeV 1 v49 (.slice none 0 0) s50) fun _ s52 =>
vop (nilV a0) s52 fun v53 s54 =>
vop (faddr 4 v53) s54 fun v55 s56 =>
eop (storeV 1 v55 (.slice none 0 0) s56) fun _ s58 =>
p14_2 a0 s58 K)
/-- (*undercroft/disk.Disk).Crash -/
def p14 (K : Value → Store → Prop) (a0 a1 : Value) (s : Store) : Prop :=
Does Tryz.prog 24 [a0] s fun v0 s1 =>
vop (unV .not v0) s1 fun v2 s3 =>
condH v2 (
K (.int .i64 1) s3) (
vop (nilV a0) s3 fun v4 s5 =>
vop (faddr 3 v4) s5 fun v6 s7 =>
vop (loadV false 1 v6 s7.get) s7 fun v8 s9 =>
vop (lenSl v8) s9 fun v10 s11 =>
lop 1 (fun (n12 : Value → Store → Prop) x13 s14 =>
vop (binI .lss x13 v10) s14 fun v15 s16 =>
p14_3 v15 v8 x13 s16 a1 K a0 n12) (.int .i64 0) s11)
theorem e14 (K : Value → Store → Prop) (a0 a1 : Value) (s : Store) : bodyT Tryz.prog Tryz.f14 [a0, a1] s K = p14 K a0 a1 s := by kernel_rfl
theorem d14 {K : Value → Store → Prop} {a0 a1 : Value} {s : Store} (h : p14 K a0 a1 s) : Does Tryz.prog 14 [a0, a1] s K := does_of_print Tryz.func14 (by kernel_rfl) ((e14 K a0 a1 s).symm ▸ h)
/-- undercroft/past.Same -/
def p15 (K : Value → Store → Prop) (a0 a1 : Value) (s : Store) : Prop :=
nop (boxN a0) s fun v0 s1 =>
nop (boxN a1) s1 fun v2 s3 =>
vop (loadV true 2 v0 s3.get) s3 fun v4 s5 =>
vop (loadV true 2 v2 s5.get) s5 fun v6 s7 =>
Does Tryz.prog 30 [v4, v6] s7 fun v8 s9 =>
gop v8 true s9 (fun K => vop (loadV true 2 v0 s9.get) s9 K) fun v10 s11 =>
gop v8 true s11 (fun K => vop (loadV true 2 v2 s11.get) s11 K) fun v12 s13 =>
gop v8 true s13 (fun K => Does Tryz.prog 31 [v10, v12] s13 K) fun v14 s15 =>
gop v8 true s15 (fun K => vop (lenSl v14) s15 K) fun v16 s17 =>
gop v8 true s17 (fun K => vop (binI .eql v16 (.int .i64 0)) s17 K) fun v18 s19 =>
vop (pickV v8 v18 (.bool false)) s19 fun v20 s21 =>
K v20 s21
theorem e15 (K : Value → Store → Prop) (a0 a1 : Value) (s : Store) : bodyT Tryz.prog Tryz.f15 [a0, a1] s K = p15 K a0 a1 s := by kernel_rfl
theorem d15 {K : Value → Store → Prop} {a0 a1 : Value} {s : Store} (h : p15 K a0 a1 s) : Does Tryz.prog 15 [a0, a1] s K := does_of_print Tryz.func15 (by kernel_rfl) ((e15 K a0 a1 s).symm ▸ h)
/-- (*undercroft/disk.Disk).Image -/
def p16 (K : Value → Store → Prop) (a0 : Value) (s : Store) : Prop :=
nop (some (.cells (unrle [(1, (.int .i64 0)), (1, (.slice none 0 0))]) none, ptrTo)) s fun v0 s1 =>
Does Tryz.prog 24 [a0] s1 fun v2 s3 =>
vop (unV .not v2) s3 fun v4 s5 =>
condH v4 (
vop (aggOf (buildL [(unrle [(1, (.int .i64 0))]), (unrle [(1, (.slice none 0 0))])] [])) s5 fun v6 s7 =>
eop (storeV 2 v0 v6 s7) fun _ s9 =>
vop (loadV true 2 v0 s9.get) s9 fun v10 _ =>
K v10 s9) (
vop (nilV a0) s5 fun v11 s12 =>
vop (faddr 0 v11) s12 fun v13 s14 =>
vop (loadV false 1 v13 s14.get) s14 fun v15 s16 =>
vop (aggOf (buildL [(unrle [(1, (.int .i64 0))]), (unrle [(1, (.slice none 0 0))])] [(0, v15)])) s16 fun v17 s18 =>
nop (some (.cells (unrle [(1, (.int .i64 0)), (1, (.slice none 0 0))]) none, ptrTo)) s18 fun v19 s20 =>
eop (storeV 2 v19 v17 s20) fun _ s22 =>
vop (nilV a0) s22 fun v23 s24 =>
vop (faddr 1 v23) s24 fun v25 s26 =>
vop (loadV false 1 v25 s26.get) s26 fun v27 s28 =>
eop (rangeH v27 s28) fun v29 s30 =>
lop 0 (fun (n31 : Store → Prop) s32 =>
pop (nextL v29 s32) fun v33 s34 =>
vop (extractV v33 0) s34 fun v35 s36 =>
condH v35 (
vop (entryL v29 s36.get) s36 fun v37 s38 =>
vop (extractV v37 0) s38 fun v39 s40 =>
vop (extractV v37 1) s40 fun v41 s42 =>
nop (some (.cells (unrle [(1024, (.int .u8 0))]) none, ptrTo)) s42 fun v43 s44 =>
eop (storeV 1024 v43 v41 s44) fun _ s46 =>
vop (faddr 1 v19) s46 fun v47 s48 =>
vop (loadV false 1 v47 s48.get) s48 fun v49 s50 =>
vop (loadV true 1024 v43 s50.get) s50 fun v51 s52 =>
vop (aggOf (buildL [(unrle [(1, (.int .i64 0))]), (unrle [(1024, (.int .u8 0))])] [(0, v39), (1, v51)])) s52 fun v53 s54 =>
nop (sliceOf 1 (buildL (List.replicate 1 (unrle [(1, (.int .i64 0)), (1024, (.int .u8 0))])) [(0, v53)])) s54 fun v55 s56 =>
eop (appendV 1025 1032 v49 v55 s56) fun v57 s58 =>
vop (faddr 1 v19) s58 fun v59 s60 =>
eop (storeV 1 v59 v57 s60) fun _ s62 =>
n31 s62) (
vop (faddr 1 v19) s36 fun v63 s64 =>
vop (loadV false 1 v63 s64.get) s64 fun v65 s66 =>
Does Tryz.prog 32 [(.iface 22 v65), (.func (.func 33) #[] #[v19])] s66 fun _ s68 =>
vop (loadV true 2 v19 s68.get) s68 fun v69 s70 =>
eop (storeV 2 v0 v69 s70) fun _ s72 =>
vop (loadV true 2 v0 s72.get) s72 fun v73 _ =>
K v73 s72)) s30)
theorem e16 (K : Value → Store → Prop) (a0 : Value) (s : Store) : bodyT Tryz.prog Tryz.f16 [a0] s K = p16 K a0 s := by kernel_rfl
theorem d16 {K : Value → Store → Prop} {a0 : Value} {s : Store} (h : p16 K a0 s) : DoesD Tryz.prog 16 [a0] s K := doesD_of_print Tryz.func16 (by kernel_rfl) ((e16 K a0 s).symm ▸ h)
/-- undercroft/undercroftlaw05.letter -/
def p17 (K : Value → Store → Prop) (a0 : Value) (s : Store) : Prop :=
nop (some (.cells (unrle [(1024, (.int .u8 0))]) none, ptrTo)) s fun v0 s1 =>
nop (some (.cells (unrle [(1024, (.int .u8 0))]) none, ptrTo)) s1 fun v2 s3 =>
lop 1 (fun (n4 : Value → Store → Prop) x5 s6 =>
vop (binI .lss x5 (.int .i64 1024)) s6 fun v7 s8 =>
condH v7 (
vop (iaddrA 1024 1 v2 x5) s8 fun v9 s10 =>
eop (storeV 1 v9 a0 s10) fun _ s12 =>
vop (binI .add x5 (.int .i64 1)) s12 fun v13 s14 =>
n4 v13 s14) (
vop (loadV true 1024 v2 s8.get) s8 fun v15 s16 =>
eop (storeV 1024 v0 v15 s16) fun _ s18 =>
vop (loadV true 1024 v0 s18.get) s18 fun v19 _ =>
K v19 s18)) (.int .i64 0) s3
theorem e17 (K : Value → Store → Prop) (a0 : Value) (s : Store) : bodyT Tryz.prog Tryz.f17 [a0] s K = p17 K a0 s := by kernel_rfl
theorem d17 {K : Value → Store → Prop} {a0 : Value} {s : Store} (h : p17 K a0 s) : Does Tryz.prog 17 [a0] s K := does_of_print Tryz.func17 (by kernel_rfl) ((e17 K a0 s).symm ▸ h)
def p18_1 (v49 : Value) (x54 : Value) (s57 : Store) (a1 : Value) (v2 : Value) (v38 : Value) (v34 : Value) (k58 : Store → Prop) : Prop :=
vop (iaddrS 1 v49 x54) s57 fun v59 s60 =>
vop (loadV false 1 v59 s60.get) s60 fun v61 s62 =>
vop (iaddrS 1026 a1 v61) s62 fun v63 s64 =>
vop (faddr 1 v63) s64 fun v65 s66 =>
vop (loadV false 1 v65 s62.get) s66 fun v67 _ =>
vop (loadV false 1 v2 s62.get) s66 fun v68 _ =>
vop (binI .eql v67 v68) s66 fun v69 s70 =>
condH v69 (
vop (iaddrS 1026 a1 v61) s70 fun v71 s72 =>
vop (faddr 2 v71) s72 fun v73 s74 =>
vop (loadV true 1024 v73 s74.get) s74 fun v75 s76 =>
cop Tryz.prog (callD Tryz.prog (.func (.func 34) #[] #[v2, v38, v34]) [v75]) s76 fun _ s78 =>
k58 s78) (
k58 s70)
def p18_2 (v2 : Value) (s44 : Store) (s41 : Store) (v43 : Value) (v38 : Value) (v34 : Value) (a1 : Value) (a2 : Value) (K : Value → Store → Prop) : Prop :=
vop (loadV false 1 v2 s44.get) s44 fun v45 _ =>
kop (loadV false 1 v2 s41.get) v45 (
vop (lookupH (.int .i64) (.agg (unrle [(1024, (.int .u8 0))]).toArray) v43 v45 false s44.get) s44 fun v46 _ =>
cop Tryz.prog (callD Tryz.prog (.func (.func 34) #[] #[v2, v38, v34]) [v46]) s44 fun _ s48 =>
Does Tryz.prog 12 [a1, a2] s48 fun v49 s50 =>
vop (lenSl v49) s50 fun v51 s52 =>
lop 1 (fun (n53 : Value → Store → Prop) x54 s55 =>
vop (binI .lss x54 v51) s55 fun v56 s57 =>
condH v56 (
jop 0 (fun (k58 : Store → Prop) =>
p18_1 v49 x54 s57 a1 v2 v38 v34 k58) fun s79 =>
vop (binI .add x54 (.int .i64 1)) s79 fun v80 s81 =>
n53 v80 s81) (
vop (loadV false 1 v34 s57.get) s57 fun v82 s83 =>
K (.tuple #[v82, (.int .i64 0)]) s83)) (.int .i64 0) s52)
def p18_3 (v22 : Value) (s23 : Store) (K : Value → Store → Prop) (v2 : Value) (v0 : Value) (v12 : Value) (a1 : Value) (a2 : Value) : Prop :=
gop v22 false s23 (fun K => vop (loadV false 1 v2 s23.get) s23 K) fun v24 s25 =>
gop v22 false s25 (fun K => vop (faddr 0 v0) s25 K) fun v26 s27 =>
gop v22 false s27 (fun K => vop (loadV false 1 v26 s27.get) s27 K) fun v28 s29 =>
gop v22 false s29 (fun K => vop (binI .geq v24 v28) s29 K) fun v30 s31 =>
vop (pickV v22 (.bool true) v30) s31 fun v32 s33 =>
condH v32 (
K (.tuple #[(.slice none 0 0), (.int .i64 2)]) s33) (
nop (some (.cells (unrle [(1, (.slice none 0 0))]) none, ptrTo)) s33 fun v34 s35 =>
nop (some (.map [] 0, fun i => .map (some i))) s35 fun v36 s37 =>
nop (some (.cells (unrle [(1, (.map none))]) none, ptrTo)) s37 fun v38 s39 =>
eop (storeV 1 v38 v36 s39) fun _ s41 =>
vop (loadV true 2 v12 s41.get) s41 fun v42 _ =>
Does Tryz.prog 26 [v42] s41 fun v43 s44 =>
p18_2 v2 s44 s41 v43 v38 v34 a1 a2 K)
/-- undercroft/past.Block -/
def p18 (K : Value → Store → Prop) (a0 a1 a2 a3 : Value) (s : Store) : Prop :=
nop (boxN a0) s fun v0 s1 =>
nop (boxN a3) s1 fun v2 s3 =>
vop (loadV true 2 v0 s3.get) s3 fun v4 s5 =>
Does Tryz.prog 11 [v4, a1, a2, (.slice none 0 0)] s5 fun v6 s7 =>
vop (extractV v6 0) s7 fun v8 s9 =>
vop (extractV v6 1) s9 fun v10 s11 =>
nop (some (.cells (unrle [(1, (.int .i64 0)), (1, (.slice none 0 0))]) none, ptrTo)) s11 fun v12 s13 =>
eop (storeV 2 v12 v8 s13) fun _ s15 =>
vop (binI .neq v10 (.int .i64 0)) s15 fun v16 s17 =>
gop v16 false s17 (fun K => vop (loadV false 1 v2 s17.get) s17 K) fun v18 s19 =>
gop v16 false s19 (fun K => vop (binI .lss v18 (.int .i64 0)) s19 K) fun v20 s21 =>
vop (pickV v16 (.bool true) v20) s21 fun v22 s23 =>
p18_3 v22 s23 K v2 v0 v12 a1 a2
theorem e18 (K : Value → Store → Prop) (a0 a1 a2 a3 : Value) (s : Store) : bodyT Tryz.prog Tryz.f18 [a0, a1, a2, a3] s K = p18 K a0 a1 a2 a3 s := by kernel_rfl
theorem d18 {K : Value → Store → Prop} {a0 a1 a2 a3 : Value} {s : Store} (h : p18 K a0 a1 a2 a3 s) : Does Tryz.prog 18 [a0, a1, a2, a3] s K := does_of_print Tryz.func18 (by kernel_rfl) ((e18 K a0 a1 a2 a3 s).symm ▸ h)
/-- undercroft/undercroftkit.SameInts -/
def p19 (K : Value → Store → Prop) (a0 a1 : Value) (s : Store) : Prop :=
vop (lenSl a0) s fun v0 s1 =>
vop (lenSl a1) s1 fun v2 s3 =>
vop (binI .neq v0 v2) s3 fun v4 s5 =>
condH v4 (
K (.bool false) s5) (
lop 1 (fun (n6 : Value → Store → Prop) x7 s8 =>
vop (lenSl a0) s8 fun v9 s10 =>
vop (binI .lss x7 v9) s10 fun v11 s12 =>
condH v11 (
vop (iaddrS 1 a0 x7) s12 fun v13 s14 =>
vop (loadV false 1 v13 s12.get) s14 fun v15 _ =>
vop (iaddrS 1 a1 x7) s14 fun v16 s17 =>
vop (loadV false 1 v16 s12.get) s17 fun v18 _ =>
vop (binI .neq v15 v18) s17 fun v19 s20 =>
condH v19 (
K (.bool false) s20) (
vop (binI .add x7 (.int .i64 1)) s20 fun v21 s22 =>
n6 v21 s22)) (
K (.bool true) s12)) (.int .i64 0) s5)
theorem e19 (K : Value → Store → Prop) (a0 a1 : Value) (s : Store) : bodyT Tryz.prog Tryz.f19 [a0, a1] s K = p19 K a0 a1 s := by kernel_rfl
theorem d19 {K : Value → Store → Prop} {a0 a1 : Value} {s : Store} (h : p19 K a0 a1 s) : Does Tryz.prog 19 [a0, a1] s K := does_of_print Tryz.func19 (by kernel_rfl) ((e19 K a0 a1 s).symm ▸ h)
/-- undercroft/disk.New -/
def p20 (K : Value → Store → Prop) (a0 : Value) (s : Store) : Prop :=
vop (binI .lss a0 (.int .i64 1)) s fun v0 s1 =>
gop v0 false s1 (fun K => K a0 s1) fun v2 s3 =>
gop v0 false s3 (fun K => vop (binI .gtr v2 (.int .i64 1048576)) s3 K) fun v4 s5 =>
vop (pickV v0 (.bool true) v4) s5 fun v6 s7 =>
condH v6 (
K (.tuple #[(.pointer none), (.int .i64 2)]) s7) (
nop (some (.map [] 0, fun i => .map (some i))) s7 fun v8 s9 =>
nop (some (.map [] 0, fun i => .map (some i))) s9 fun v10 s11 =>
vop (aggOf (buildL [(unrle [(1, (.int .i64 0))]), (unrle [(1, (.map none))]), (unrle [(1, (.map none))]), (unrle [(1, (.slice none 0 0))]), (unrle [(1, (.slice none 0 0))]), (unrle [(1, (.int .i64 0))]), (unrle [(1, (.bool false))]), (unrle [(1, (.int .i64 0))]), (unrle [(1, (.int .i64 0))]), (unrle [(1, (.int .i64 0))]), (unrle [(1, (.int .i64 0))])] [(0, a0), (1, v8), (2, v10), (5, (.int .i64 (-1)))])) s11 fun v12 s13 =>
nop (boxN v12) s13 fun v14 s15 =>
K (.tuple #[v14, (.int .i64 0)]) s15)
theorem e20 (K : Value → Store → Prop) (a0 : Value) (s : Store) : bodyT Tryz.prog Tryz.f20 [a0] s K = p20 K a0 s := by kernel_rfl
theorem d20 {K : Value → Store → Prop} {a0 : Value} {s : Store} (h : p20 K a0 s) : Does Tryz.prog 20 [a0] s K := does_of_print Tryz.func20 (by kernel_rfl) ((e20 K a0 s).symm ▸ h)
/-- (*undercroft/disk.Disk).check -/
def p21 (K : Value → Store → Prop) (a0 : Value) (s : Store) : Prop :=
Does Tryz.prog 24 [a0] s fun v0 s1 =>
vop (unV .not v0) s1 fun v2 s3 =>
condH v2 (
K (.int .i64 1) s3) (
vop (nilV a0) s3 fun v4 s5 =>
vop (faddr 6 v4) s5 fun v6 s7 =>
vop (loadV false 1 v6 s7.get) s7 fun v8 s9 =>
condH v8 (
K (.int .i64 3) s9) (
K (.int .i64 0) s9))
theorem e21 (K : Value → Store → Prop) (a0 : Value) (s : Store) : bodyT Tryz.prog Tryz.f21 [a0] s K = p21 K a0 s := by kernel_rfl
theorem d21 {K : Value → Store → Prop} {a0 : Value} {s : Store} (h : p21 K a0 s) : Does Tryz.prog 21 [a0] s K := does_of_print Tryz.func21 (by kernel_rfl) ((e21 K a0 s).symm ▸ h)
/-- (*undercroft/disk.Disk).burn -/
def p22 (K : Value → Store → Prop) (a0 : Value) (s : Store) : Prop :=
vop (nilV a0) s fun v0 s1 =>
vop (faddr 5 v0) s1 fun v2 s3 =>
vop (loadV false 1 v2 s3.get) s3 fun v4 s5 =>
vop (binI .eql v4 (.int .i64 0)) s5 fun v6 s7 =>
condH v6 (
vop (nilV a0) s7 fun v8 s9 =>
vop (faddr 6 v8) s9 fun v10 s11 =>
eop (storeV 1 v10 (.bool true) s11) fun _ s13 =>
K (.bool false) s13) (
jop 0 (fun (k14 : Store → Prop) =>
vop (nilV a0) s7 fun v15 s16 =>
vop (faddr 5 v15) s16 fun v17 s18 =>
vop (loadV false 1 v17 s18.get) s18 fun v19 s20 =>
vop (binI .gtr v19 (.int .i64 0)) s20 fun v21 s22 =>
condH v21 (
vop (nilV a0) s22 fun v23 s24 =>
vop (faddr 5 v23) s24 fun v25 s26 =>
vop (loadV false 1 v25 s26.get) s26 fun v27 s28 =>
vop (binI .sub v27 (.int .i64 1)) s28 fun v29 s30 =>
vop (nilV a0) s30 fun v31 s32 =>
vop (faddr 5 v31) s32 fun v33 s34 =>
eop (storeV 1 v33 v29 s34) fun _ s36 =>
k14 s36) (
k14 s22)) fun s37 =>
vop (nilV a0) s37 fun v38 s39 =>
vop (faddr 7 v38) s39 fun v40 s41 =>
vop (loadV false 1 v40 s41.get) s41 fun v42 s43 =>
vop (binI .add v42 (.int .i64 1)) s43 fun v44 s45 =>
vop (nilV a0) s45 fun v46 s47 =>
vop (faddr 7 v46) s47 fun v48 s49 =>
eop (storeV 1 v48 v44 s49) fun _ s51 =>
K (.bool true) s51)
theorem e22 (K : Value → Store → Prop) (a0 : Value) (s : Store) : bodyT Tryz.prog Tryz.f22 [a0] s K = p22 K a0 s := by kernel_rfl
theorem d22 {K : Value → Store → Prop} {a0 : Value} {s : Store} (h : p22 K a0 s) : Does Tryz.prog 22 [a0] s K := does_of_print Tryz.func22 (by kernel_rfl) ((e22 K a0 s).symm ▸ h)
/-- (*undercroft/disk.Disk).keep -/
def p23 (K : Value → Store → Prop) (a0 a1 : Value) (s : Store) : Prop :=
nop (boxN a1) s fun v0 s1 =>
vop (faddr 1 v0) s1 fun v2 s3 =>
vop (loadV true 1024 v2 s3.get) s3 fun v4 s5 =>
vop (aggOf (buildL (List.replicate 1024 (unrle [(1, (.int .u8 0))])) [])) s5 fun v6 s7 =>
vop (eqA (.ints .u8 1024) false v4 v6) s7 fun v8 s9 =>
condH v8 (
vop (nilV a0) s9 fun v10 s11 =>
vop (faddr 1 v10) s11 fun v12 s13 =>
vop (loadV false 1 v12 s9.get) s13 fun v14 _ =>
vop (faddr 0 v0) s13 fun v15 s16 =>
vop (loadV false 1 v15 s9.get) s16 fun v17 _ =>
eop (delH (.int .i64) v14 v17 s16) fun _ s19 =>
K (.tuple #[]) s19) (
vop (nilV a0) s9 fun v20 s21 =>
vop (faddr 1 v20) s21 fun v22 s23 =>
vop (loadV false 1 v22 s9.get) s23 fun v24 _ =>
vop (faddr 0 v0) s23 fun v25 s26 =>
vop (loadV false 1 v25 s9.get) s26 fun v27 _ =>
vop (faddr 1 v0) s26 fun v28 s29 =>
vop (loadV true 1024 v28 s9.get) s29 fun v30 _ =>
eop (updH (.int .i64) v24 v27 v30 s29) fun _ s32 =>
K (.tuple #[]) s32)
theorem e23 (K : Value → Store → Prop) (a0 a1 : Value) (s : Store) : bodyT Tryz.prog Tryz.f23 [a0, a1] s K = p23 K a0 a1 s := by kernel_rfl
theorem d23 {K : Value → Store → Prop} {a0 a1 : Value} {s : Store} (h : p23 K a0 a1 s) : Does Tryz.prog 23 [a0, a1] s K := does_of_print Tryz.func23 (by kernel_rfl) ((e23 K a0 a1 s).symm ▸ h)
/-- (*undercroft/disk.Disk).is -/
def p24 (K : Value → Store → Prop) (a0 : Value) (s : Store) : Prop :=
vop (eqPn true a0 (.pointer none)) s fun v0 s1 =>
gop v0 true s1 (fun K => K a0 s1) fun v2 s3 =>
gop v0 true s3 (fun K => vop (nilV v2) s3 K) fun v4 s5 =>
gop v0 true s5 (fun K => vop (faddr 0 v4) s5 K) fun v6 s7 =>
gop v0 true s7 (fun K => vop (loadV false 1 v6 s7.get) s7 K) fun v8 s9 =>
gop v0 true s9 (fun K => vop (binI .gtr v8 (.int .i64 0)) s9 K) fun v10 s11 =>
vop (pickV v0 v10 (.bool false)) s11 fun v12 s13 =>
K v12 s13
theorem e24 (K : Value → Store → Prop) (a0 : Value) (s : Store) : bodyT Tryz.prog Tryz.f24 [a0] s K = p24 K a0 s := by kernel_rfl
theorem d24 {K : Value → Store → Prop} {a0 : Value} {s : Store} (h : p24 K a0 s) : Does Tryz.prog 24 [a0] s K := does_of_print Tryz.func24 (by kernel_rfl) ((e24 K a0 s).symm ▸ h)
/-- undercroft/past.may -/
def p25 (K : Value → Store → Prop) (a0 a1 : Value) (s : Store) : Prop :=
nop (boxN a0) s fun v0 s1 =>
vop (loadV true 2 v0 s1.get) s1 fun v2 s3 =>
Does Tryz.prog 5 [v2] s3 fun v4 s5 =>
vop (binI .eql v4 (.int .i64 0)) s5 fun v6 s7 =>
gop v6 true s7 (fun K => K a1 s7) fun v8 s9 =>
gop v6 true s9 (fun K => K (.func (.func 35) #[] #[v0]) s9) fun v10 s11 =>
gop v6 true s11 (fun K => Does Tryz.prog 36 [v8, v10] s11 K) fun v12 s13 =>
gop v6 true s13 (fun K => vop (unV .not v12) s13 K) fun v14 s15 =>
vop (pickV v6 v14 (.bool false)) s15 fun v16 s17 =>
K v16 s17
theorem e25 (K : Value → Store → Prop) (a0 a1 : Value) (s : Store) : bodyT Tryz.prog Tryz.f25 [a0, a1] s K = p25 K a0 a1 s := by kernel_rfl
theorem d25 {K : Value → Store → Prop} {a0 a1 : Value} {s : Store} (h : p25 K a0 a1 s) : Does Tryz.prog 25 [a0, a1] s K := does_of_print Tryz.func25 (by kernel_rfl) ((e25 K a0 a1 s).symm ▸ h)
/-- undercroft/past.held -/
def p26 (K : Value → Store → Prop) (a0 : Value) (s : Store) : Prop :=
nop (boxN a0) s fun v0 s1 =>
nop (some (.map [] 0, fun i => .map (some i))) s1 fun v2 s3 =>
vop (faddr 1 v0) s3 fun v4 s5 =>
vop (loadV false 1 v4 s5.get) s5 fun v6 s7 =>
vop (lenSl v6) s7 fun v8 s9 =>
lop 1 (fun (n10 : Value → Store → Prop) x11 s12 =>
vop (binI .lss x11 v8) s12 fun v13 s14 =>
condH v13 (
vop (iaddrS 1025 v6 x11) s14 fun v15 s16 =>
vop (loadV true 1025 v15 s16.get) s16 fun v17 s18 =>
nop (some (.cells (unrle [(1, (.int .i64 0)), (1024, (.int .u8 0))]) none, ptrTo)) s18 fun v19 s20 =>
eop (storeV 1025 v19 v17 s20) fun _ s22 =>
vop (faddr 0 v19) s22 fun v23 s24 =>
vop (loadV false 1 v23 s24.get) s24 fun v25 s26 =>
vop (faddr 1 v19) s26 fun v27 s28 =>
vop (loadV true 1024 v27 s28.get) s28 fun v29 s30 =>
eop (updH (.int .i64) v2 v25 v29 s30) fun _ s32 =>
vop (binI .add x11 (.int .i64 1)) s32 fun v33 s34 =>
n10 v33 s34) (
K v2 s14)) (.int .i64 0) s9
theorem e26 (K : Value → Store → Prop) (a0 : Value) (s : Store) : bodyT Tryz.prog Tryz.f26 [a0] s K = p26 K a0 s := by kernel_rfl
theorem d26 {K : Value → Store → Prop} {a0 : Value} {s : Store} (h : p26 K a0 s) : Does Tryz.prog 26 [a0] s K := does_of_print Tryz.func26 (by kernel_rfl) ((e26 K a0 s).symm ▸ h)
/-- undercroft/past.After$1 -/
def p27 (K : Value → Store → Prop) (a0 a1 : Value) (s : Store) : Prop :=
nop (boxN a0) s fun v0 s1 =>
vop (faddr 0 v0) s1 fun v2 s3 =>
vop (loadV false 1 v2 s3.get) s3 fun v4 s5 =>
vop (binI .eql v4 (.int .u8 1)) s5 fun v6 s7 =>
condH v6 (
vop (loadV false 1 a1 s7.get) s7 fun v8 s9 =>
vop (faddr 1 v0) s9 fun v10 s11 =>
vop (loadV false 1 v10 s11.get) s11 fun v12 s13 =>
vop (faddr 2 v0) s13 fun v14 s15 =>
vop (loadV true 1024 v14 s15.get) s15 fun v16 s17 =>
eop (updH (.int .i64) v8 v12 v16 s17) fun _ s19 =>
K (.tuple #[]) s19) (
K (.tuple #[]) s7)
theorem e27 (K : Value → Store → Prop) (a0 a1 : Value) (s : Store) : bodyT Tryz.prog Tryz.f27 [a0, a1] s K = p27 K a0 a1 s := by kernel_rfl
theorem d27 {K : Value → Store → Prop} {a0 a1 : Value} {s : Store} (h : p27 K a0 a1 s) : Does Tryz.prog 27 [a0, a1] s K := does_of_print Tryz.func27 (by kernel_rfl) ((e27 K a0 a1 s).symm ▸ h)
/-- undercroft/past.split -/
def p28 (K : Value → Store → Prop) (a0 a1 : Value) (s : Store) : Prop :=
lop 1 (fun (n0 : Value → Store → Prop) x1 s2 =>
vop (binI .gtr x1 (.int .i64 0)) s2 fun v3 s4 =>
condH v3 (
vop (binI .sub x1 (.int .i64 1)) s4 fun v5 s6 =>
vop (iaddrS 1026 a0 v5) s6 fun v7 s8 =>
vop (faddr 0 v7) s8 fun v9 s10 =>
vop (loadV false 1 v9 s10.get) s10 fun v11 s12 =>
vop (binI .eql v11 (.int .u8 2)) s12 fun v13 s14 =>
condH v13 (
K x1 s14) (
vop (binI .sub x1 (.int .i64 1)) s14 fun v15 s16 =>
n0 v15 s16)) (
K (.int .i64 0) s4)) a1 s
theorem e28 (K : Value → Store → Prop) (a0 a1 : Value) (s : Store) : bodyT Tryz.prog Tryz.f28 [a0, a1] s K = p28 K a0 a1 s := by kernel_rfl
theorem d28 {K : Value → Store → Prop} {a0 a1 : Value} {s : Store} (h : p28 K a0 a1 s) : Does Tryz.prog 28 [a0, a1] s K := does_of_print Tryz.func28 (by kernel_rfl) ((e28 K a0 a1 s).symm ▸ h)
/-- undercroft/past.image -/
def p29 (K : Value → Store → Prop) (a0 a1 : Value) (s : Store) : Prop :=
nop (some (.cells (unrle [(1, (.int .i64 0)), (1, (.slice none 0 0))]) none, ptrTo)) s fun v0 s1 =>
vop (aggOf (buildL [(unrle [(1, (.int .i64 0))]), (unrle [(1, (.slice none 0 0))])] [(0, a0)])) s1 fun v2 s3 =>
nop (some (.cells (unrle [(1, (.int .i64 0)), (1, (.slice none 0 0))]) none, ptrTo)) s3 fun v4 s5 =>
eop (storeV 2 v4 v2 s5) fun _ s7 =>
eop (rangeH a1 s7) fun v8 s9 =>
lop 0 (fun (n10 : Store → Prop) s11 =>
pop (nextL v8 s11) fun v12 s13 =>
vop (extractV v12 0) s13 fun v14 s15 =>
condH v14 (
jop 0 (fun (k16 : Store → Prop) =>
vop (entryL v8 s15.get) s15 fun v17 s18 =>
vop (extractV v17 0) s18 fun v19 s20 =>
vop (extractV v17 1) s20 fun v21 s22 =>
nop (some (.cells (unrle [(1024, (.int .u8 0))]) none, ptrTo)) s22 fun v23 s24 =>
eop (storeV 1024 v23 v21 s24) fun _ s26 =>
vop (loadV true 1024 v23 s26.get) s26 fun v27 s28 =>
vop (aggOf (buildL (List.replicate 1024 (unrle [(1, (.int .u8 0))])) [])) s28 fun v29 s30 =>
vop (eqA (.ints .u8 1024) true v27 v29) s30 fun v31 s32 =>
condH v31 (
vop (faddr 1 v4) s32 fun v33 s34 =>
vop (loadV false 1 v33 s34.get) s34 fun v35 s36 =>
vop (loadV true 1024 v23 s36.get) s36 fun v37 s38 =>
vop (aggOf (buildL [(unrle [(1, (.int .i64 0))]), (unrle [(1024, (.int .u8 0))])] [(0, v19), (1, v37)])) s38 fun v39 s40 =>
nop (sliceOf 1 (buildL (List.replicate 1 (unrle [(1, (.int .i64 0)), (1024, (.int .u8 0))])) [(0, v39)])) s40 fun v41 s42 =>
eop (appendV 1025 1032 v35 v41 s42) fun v43 s44 =>
vop (faddr 1 v4) s44 fun v45 s46 =>
eop (storeV 1 v45 v43 s46) fun _ s48 =>
k16 s48) (
k16 s32)) fun s49 =>
n10 s49) (
vop (faddr 1 v4) s15 fun v50 s51 =>
vop (loadV false 1 v50 s51.get) s51 fun v52 s53 =>
Does Tryz.prog 37 [v52, (.func (.func 38) #[] #[])] s53 fun _ s55 =>
vop (loadV true 2 v4 s55.get) s55 fun v56 s57 =>
eop (storeV 2 v0 v56 s57) fun _ s59 =>
vop (loadV true 2 v0 s59.get) s59 fun v60 _ =>
K v60 s59)) s9
theorem e29 (K : Value → Store → Prop) (a0 a1 : Value) (s : Store) : bodyT Tryz.prog Tryz.f29 [a0, a1] s K = p29 K a0 a1 s := by kernel_rfl
theorem d29 {K : Value → Store → Prop} {a0 a1 : Value} {s : Store} (h : p29 K a0 a1 s) : DoesD Tryz.prog 29 [a0, a1] s K := doesD_of_print Tryz.func29 (by kernel_rfl) ((e29 K a0 a1 s).symm ▸ h)
/-- undercroft/past.both -/
def p30 (K : Value → Store → Prop) (a0 a1 : Value) (s : Store) : Prop :=
nop (boxN a0) s fun v0 s1 =>
nop (boxN a1) s1 fun v2 s3 =>
vop (loadV true 2 v0 s3.get) s3 fun v4 s5 =>
Does Tryz.prog 5 [v4] s5 fun v6 s7 =>
vop (binI .eql v6 (.int .i64 0)) s7 fun v8 s9 =>
gop v8 true s9 (fun K => vop (loadV true 2 v2 s9.get) s9 K) fun v10 s11 =>
gop v8 true s11 (fun K => Does Tryz.prog 5 [v10] s11 K) fun v12 s13 =>
gop v8 true s13 (fun K => vop (binI .eql v12 (.int .i64 0)) s13 K) fun v14 s15 =>
vop (pickV v8 v14 (.bool false)) s15 fun v16 s17 =>
gop v16 true s17 (fun K => vop (faddr 0 v0) s17 K) fun v18 s19 =>
gop v16 true s19 (fun K => vop (loadV false 1 v18 s19.get) s19 K) fun v20 s21 =>
gop v16 true s21 (fun K => vop (faddr 0 v2) s21 K) fun v22 s23 =>
gop v16 true s23 (fun K => vop (loadV false 1 v22 s23.get) s23 K) fun v24 s25 =>
gop v16 true s25 (fun K => vop (binI .eql v20 v24) s25 K) fun v26 s27 =>
vop (pickV v16 v26 (.bool false)) s27 fun v28 s29 =>
K v28 s29
theorem e30 (K : Value → Store → Prop) (a0 a1 : Value) (s : Store) : bodyT Tryz.prog Tryz.f30 [a0, a1] s K = p30 K a0 a1 s := by kernel_rfl
theorem d30 {K : Value → Store → Prop} {a0 a1 : Value} {s : Store} (h : p30 K a0 a1 s) : Does Tryz.prog 30 [a0, a1] s K := does_of_print Tryz.func30 (by kernel_rfl) ((e30 K a0 a1 s).symm ▸ h)
def p31_1 (v18 : Value) (s26 : Store) (v16 : Value) (x21 : Value) (n20 : Value → Store → Prop) : Prop :=
jop 1 (fun (k27 : Value → Store → Prop) =>
vop (entryL v18 s26.get) s26 fun v28 s29 =>
vop (extractV v28 0) s29 fun v30 s31 =>
vop (extractV v28 1) s31 fun v32 s33 =>
nop (some (.cells (unrle [(1024, (.int .u8 0))]) none, ptrTo)) s33 fun v34 s35 =>
eop (storeV 1024 v34 v32 s35) fun _ s37 =>
vop (lookupH (.int .i64) (.agg (unrle [(1024, (.int .u8 0))]).toArray) v16 v30 false s37.get) s37 fun v38 s39 =>
vop (loadV true 1024 v34 s39.get) s39 fun v40 s41 =>
vop (eqA (.ints .u8 1024) true v38 v40) s41 fun v42 s43 =>
condH v42 (
nop (sliceOf 1 (buildL (List.replicate 1 (unrle [(1, (.int .i64 0))])) [(0, v30)])) s43 fun v44 s45 =>
eop (appendV 1 8 x21 v44 s45) fun v46 s47 =>
k27 v46 s47) (
k27 x21 s43)) fun x48 s49 =>
n20 x48 s49
def p31_2 (v50 : Value) (s58 : Store) (v13 : Value) (x53 : Value) (n52 : Value → Store → Prop) : Prop :=
jop 1 (fun (k59 : Value → Store → Prop) =>
vop (entryL v50 s58.get) s58 fun v60 s61 =>
vop (extractV v60 0) s61 fun v62 s63 =>
vop (lookupH (.int .i64) (.agg (unrle [(1024, (.int .u8 0))]).toArray) v13 v62 true s63.get) s63 fun v64 s65 =>
vop (extractV v64 0) s65 fun v66 s67 =>
vop (extractV v64 1) s67 fun v68 s69 =>
nop (some (.cells (unrle [(1024, (.int .u8 0))]) none, ptrTo)) s69 fun v70 s71 =>
eop (storeV 1024 v70 v66 s71) fun _ s73 =>
vop (unV .not v68) s73 fun v74 s75 =>
condH v74 (
nop (sliceOf 1 (buildL (List.replicate 1 (unrle [(1, (.int .i64 0))])) [(0, v62)])) s75 fun v76 s77 =>
eop (appendV 1 8 x53 v76 s77) fun v78 s79 =>
k59 v78 s79) (
k59 x53 s75)) fun x80 s81 =>
n52 x80 s81
def p31_3 (v13 : Value) (s17 : Store) (v16 : Value) (K : Value → Store → Prop) : Prop :=
eop (rangeH v13 s17) fun v18 s19 =>
lop 1 (fun (n20 : Value → Store → Prop) x21 s22 =>
pop (nextL v18 s22) fun v23 s24 =>
vop (extractV v23 0) s24 fun v25 s26 =>
condH v25 (
p31_1 v18 s26 v16 x21 n20) (
eop (rangeH v16 s26) fun v50 s51 =>
lop 1 (fun (n52 : Value → Store → Prop) x53 s54 =>
pop (nextL v50 s54) fun v55 s56 =>
vop (extractV v55 0) s56 fun v57 s58 =>
condH v57 (
p31_2 v50 s58 v13 x53 n52) (
Does Tryz.prog 39 [x53] s58 fun _ s83 =>
K x53 s83)) x21 s51)) (.slice none 0 0) s19
/-- undercroft/past.Changed -/
def p31 (K : Value → Store → Prop) (a0 a1 : Value) (s : Store) : Prop :=
nop (boxN a0) s fun v0 s1 =>
nop (boxN a1) s1 fun v2 s3 =>
vop (loadV true 2 v0 s3.get) s3 fun v4 s5 =>
vop (loadV true 2 v2 s5.get) s5 fun v6 s7 =>
Does Tryz.prog 30 [v4, v6] s7 fun v8 s9 =>
vop (unV .not v8) s9 fun v10 s11 =>
condH v10 (
K (.slice none 0 0) s11) (
vop (loadV true 2 v0 s11.get) s11 fun v12 _ =>
Does Tryz.prog 26 [v12] s11 fun v13 s14 =>
vop (loadV true 2 v2 s14.get) s14 fun v15 _ =>
kop (loadV true 2 v2 s11.get) v15 (
Does Tryz.prog 26 [v15] s14 fun v16 s17 =>
p31_3 v13 s17 v16 K))
theorem e31 (K : Value → Store → Prop) (a0 a1 : Value) (s : Store) : bodyT Tryz.prog Tryz.f31 [a0, a1] s K = p31 K a0 a1 s := by kernel_rfl
theorem d31 {K : Value → Store → Prop} {a0 a1 : Value} {s : Store} (h : p31 K a0 a1 s) : DoesD Tryz.prog 31 [a0, a1] s K := doesD_of_print Tryz.func31 (by kernel_rfl) ((e31 K a0 a1 s).symm ▸ h)
/-- undercroft/past.Block$1 -/
def p34 (K : Value → Store → Prop) (a0 a1 a2 a3 : Value) (s : Store) : Prop :=
nop (boxN a0) s fun v0 s1 =>
vop (loadV false 1 a1 s1.get) s1 fun v2 s3 =>
vop (loadV true 1024 v0 s3.get) s3 fun v4 s5 =>
vop (aggOf (buildL [(unrle [(1, (.int .i64 0))]), (unrle [(1024, (.int .u8 0))])] [(0, v2), (1, v4)])) s5 fun v6 s7 =>
nop (some (.cells (unrle [(1, (.int .i64 0)), (1024, (.int .u8 0))]) none, ptrTo)) s7 fun v8 s9 =>
eop (storeV 1025 v8 v6 s9) fun _ s11 =>
vop (loadV false 1 a2 s11.get) s11 fun v12 s13 =>
vop (loadV true 1025 v8 s13.get) s13 fun v14 s15 =>
vop (lookupE (.fields [(0, 1, (.one (.int .i64))), (1, 1024, (.ints .u8 1024))]) (.int .i64 0) v12 v14 true s15.get) s15 fun v16 s17 =>
vop (extractV v16 0) s17 fun _ s19 =>
vop (extractV v16 1) s19 fun v20 s21 =>
vop (unV .not v20) s21 fun v22 s23 =>
condH v22 (
vop (loadV false 1 a2 s23.get) s23 fun v24 s25 =>
vop (loadV true 1025 v8 s25.get) s25 fun v26 s27 =>
vop (loadV false 1 a3 s27.get) s27 fun v28 s29 =>
vop (lenSl v28) s29 fun v30 s31 =>
eop (updE (.fields [(0, 1, (.one (.int .i64))), (1, 1024, (.ints .u8 1024))]) v24 v26 v30 s31) fun _ s33 =>
vop (loadV false 1 a3 s33.get) s33 fun v34 s35 =>
vop (loadV true 1024 v0 s35.get) s35 fun v36 s37 =>
nop (sliceOf 1 (buildL (List.replicate 1 (unrle [(1024, (.int .u8 0))])) [(0, v36)])) s37 fun v38 s39 =>
eop (appendV 1024 1024 v34 v38 s39) fun v40 s41 =>
eop (storeV 1 a3 v40 s41) fun _ s43 =>
K (.tuple #[]) s43) (
K (.tuple #[]) s23)
theorem e34 (K : Value → Store → Prop) (a0 a1 a2 a3 : Value) (s : Store) : bodyT Tryz.prog Tryz.f34 [a0, a1, a2, a3] s K = p34 K a0 a1 a2 a3 s := by kernel_rfl
theorem d34 {K : Value → Store → Prop} {a0 a1 a2 a3 : Value} {s : Store} (h : p34 K a0 a1 a2 a3 s) : Does Tryz.prog 34 [a0, a1, a2, a3] s K := does_of_print Tryz.func34 (by kernel_rfl) ((e34 K a0 a1 a2 a3 s).symm ▸ h)
/-- undercroft/past.may$1 -/
def p35 (K : Value → Store → Prop) (a0 a1 : Value) (s : Store) : Prop :=
nop (boxN a0) s fun v0 s1 =>
vop (faddr 0 v0) s1 fun v2 s3 =>
vop (loadV false 1 v2 s3.get) s3 fun v4 s5 =>
vop (binI .neq v4 (.int .u8 2)) s5 fun v6 s7 =>
gop v6 true s7 (fun K => vop (faddr 0 v0) s7 K) fun v8 s9 =>
gop v6 true s9 (fun K => vop (loadV false 1 v8 s9.get) s9 K) fun v10 s11 =>
gop v6 true s11 (fun K => vop (binI .neq v10 (.int .u8 1)) s11 K) fun v12 s13 =>
gop v6 true s13 (fun K => K v12 s13) fun v14 s15 =>
gop v14 false s15 (fun K => vop (faddr 1 v0) s15 K) fun v16 s17 =>
gop v14 false s17 (fun K => vop (loadV false 1 v16 s17.get) s17 K) fun v18 s19 =>
gop v14 false s19 (fun K => vop (binI .lss v18 (.int .i64 0)) s19 K) fun v20 s21 =>
gop v6 true s21 (fun K => vop (pickV v14 (.bool true) v20) s21 K) fun v22 s23 =>
gop v6 true s23 (fun K => K v22 s23) fun v24 s25 =>
gop v24 false s25 (fun K => vop (faddr 1 v0) s25 K) fun v26 s27 =>
gop v24 false s27 (fun K => vop (loadV false 1 v26 s27.get) s27 K) fun v28 s29 =>
gop v24 false s29 (fun K => vop (faddr 0 a1) s29 K) fun v30 s31 =>
gop v24 false s31 (fun K => vop (loadV false 1 v30 s31.get) s31 K) fun v32 s33 =>
gop v24 false s33 (fun K => vop (binI .geq v28 v32) s33 K) fun v34 s35 =>
gop v6 true s35 (fun K => vop (pickV v24 (.bool true) v34) s35 K) fun v36 s37 =>
vop (pickV v6 v36 (.bool false)) s37 fun v38 s39 =>
K v38 s39
theorem e35 (K : Value → Store → Prop) (a0 a1 : Value) (s : Store) : bodyT Tryz.prog Tryz.f35 [a0, a1] s K = p35 K a0 a1 s := by kernel_rfl
theorem d35 {K : Value → Store → Prop} {a0 a1 : Value} {s : Store} (h : p35 K a0 a1 s) : Does Tryz.prog 35 [a0, a1] s K := does_of_print Tryz.func35 (by kernel_rfl) ((e35 K a0 a1 s).symm ▸ h)
/-- slices.ContainsFunc[[]undercroft/api.Op,undercroft/api.Op] -/
def p36 (K : Value → Store → Prop) (a0 a1 : Value) (s : Store) : Prop :=
Does Tryz.prog 45 [a0, a1] s fun v0 s1 =>
vop (binI .geq v0 (.int .i64 0)) s1 fun v2 s3 =>
K v2 s3
theorem e36 (K : Value → Store → Prop) (a0 a1 : Value) (s : Store) : bodyT Tryz.prog Tryz.f36 [a0, a1] s K = p36 K a0 a1 s := by kernel_rfl
theorem d36 {K : Value → Store → Prop} {a0 a1 : Value} {s : Store} (h : p36 K a0 a1 s) : Does Tryz.prog 36 [a0, a1] s K := does_of_print Tryz.func36 (by kernel_rfl) ((e36 K a0 a1 s).symm ▸ h)
/-- slices.IndexFunc[[]undercroft/api.Op,undercroft/api.Op] -/
def p45 (K : Value → Store → Prop) (a0 a1 : Value) (s : Store) : Prop :=
vop (lenSl a0) s fun v0 s1 =>
lop 1 (fun (n2 : Value → Store → Prop) x3 s4 =>
vop (binI .lss x3 v0) s4 fun v5 s6 =>
condH v5 (
vop (iaddrS 1026 a0 x3) s6 fun v7 s8 =>
vop (loadV true 1026 v7 s8.get) s8 fun v9 s10 =>
cop Tryz.prog (callD Tryz.prog a1 [v9]) s10 fun v11 s12 =>
condH v11 (
K x3 s12) (
vop (binI .add x3 (.int .i64 1)) s12 fun v13 s14 =>
n2 v13 s14)) (
K (.int .i64 (-1)) s6)) (.int .i64 0) s1
theorem e45 (K : Value → Store → Prop) (a0 a1 : Value) (s : Store) : bodyT Tryz.prog Tryz.f45 [a0, a1] s K = p45 K a0 a1 s := by kernel_rfl
theorem d45 {K : Value → Store → Prop} {a0 a1 : Value} {s : Store} (h : p45 K a0 a1 s) : Does Tryz.prog 45 [a0, a1] s K := does_of_print Tryz.func45 (by kernel_rfl) ((e45 K a0 a1 s).symm ▸ h)
end Go.Proofs.YthojojlgmaoecaaGreat
