/- What functions do, printed out of the code. -/
import Derived.Test.YtncdcjebanhcpaaAm34
import Derived.Test.YtncdcjebanhcpaaProg
import Derived.KernelRfl
set_option maxRecDepth 100000
set_option linter.all false
namespace Go.Proofs.Ytncdcjebanhcpaa
open Go.Am
def p3_1 (v229 : Value) (v222 : Value) (x225 : Value) (s230 : Store) (K : Value → Store → Prop) (n224 : Value → Store → Prop) (v24 : Value) : Prop :=
condH v229 (
vop (iaddrS 2 v222 x225) s230 fun v231 s232 =>
vop (loadV true 2 v231 s232.get) s232 fun v233 s234 =>
Does Try.prog 11 [v233] s234 fun v235 s236 =>
vop (binI .neq v235 (.int .i64 2)) s236 fun v237 s238 =>
condH v237 (
K (.bool false) s238) (
vop (binI .add x225 (.int .i64 1)) s238 fun v239 s240 =>
n224 v239 s240)) (
gop (.bool true) true s230 (fun K => Does Try.prog 12 [] s230 K) fun v241 s242 =>
vop (pickV (.bool true) v241 (.bool false)) s242 fun v243 s244 =>
gop v243 true s244 (fun K => K v24 s244) fun v245 s246 =>
gop v243 true s246 (fun K => Does Try.prog 13 [v245, (.int .i64 2)] s246 K) fun v247 s248 =>
gop v243 true s248 (fun K => vop (lenSl v247) s248 K) fun v249 s250 =>
gop v243 true s250 (fun K => vop (binI .eql v249 (.int .i64 0)) s250 K) fun v251 s252 =>
vop (pickV v243 v251 (.bool false)) s252 fun v253 s254 =>
gop v253 true s254 (fun K => K v24 s254) fun v255 s256 =>
gop v253 true s256 (fun K => Does Try.prog 13 [v255, (.int .i64 1)] s256 K) fun v257 s258 =>
gop v253 true s258 (fun K => nop (sliceOf 1 (buildL (List.replicate 1 (unrle [(1, (.int .i64 0))])) [(0, (.int .i64 0))])) s258 K) fun v259 s260 =>
gop v253 true s260 (fun K => Does Try.prog 14 [v257, v259] s260 K) fun v261 s262 =>
vop (pickV v253 v261 (.bool false)) s262 fun v263 s264 =>
K v263 s264)
def p3_2 (s203 : Store) (v194 : Value) (v202 : Value) (K : Value → Store → Prop) (v24 : Value) : Prop :=
vop (aggOf (buildL [(unrle [(1, (.int .i64 0))]), (unrle [(1024, (.int .u8 0))])] [(0, (.int .i64 1))])) s203 fun v204 s205 =>
nop (sliceOf 1 (buildL (List.replicate 1 (unrle [(1, (.int .i64 0)), (1024, (.int .u8 0))])) [(0, v204)])) s205 fun v206 s207 =>
vop (aggOf (buildL [(unrle [(1, (.int .i64 0))]), (unrle [(1, (.slice none 0 0))])] [(0, (.int .i64 4)), (1, v206)])) s207 fun v208 s209 =>
Does Try.prog 7 [(.int .u8 1)] s209 fun v210 s211 =>
vop (aggOf (buildL [(unrle [(1, (.int .i64 0))]), (unrle [(1024, (.int .u8 0))])] [(0, (.int .i64 2)), (1, v210)])) s211 fun v212 s213 =>
Does Try.prog 7 [(.int .u8 1)] s213 fun v214 s215 =>
vop (aggOf (buildL [(unrle [(1, (.int .i64 0))]), (unrle [(1024, (.int .u8 0))])] [(0, (.int .i64 1)), (1, v214)])) s215 fun v216 s217 =>
nop (sliceOf 2 (buildL (List.replicate 2 (unrle [(1, (.int .i64 0)), (1024, (.int .u8 0))])) [(0, v212), (1, v216)])) s217 fun v218 s219 =>
vop (aggOf (buildL [(unrle [(1, (.int .i64 0))]), (unrle [(1, (.slice none 0 0))])] [(0, (.int .i64 4)), (1, v218)])) s219 fun v220 s221 =>
nop (sliceOf 4 (buildL (List.replicate 4 (unrle [(1, (.int .i64 0)), (1, (.slice none 0 0))])) [(0, v194), (1, v202), (2, v208), (3, v220)])) s221 fun v222 s223 =>
lop 1 (fun (n224 : Value → Store → Prop) x225 s226 =>
vop (lenSl v222) s226 fun v227 s228 =>
vop (binI .lss x225 v227) s228 fun v229 s230 =>
p3_1 v229 v222 x225 s230 K n224 v24) (.int .i64 0) s223
def p3_3 (v181 : Value) (s182 : Store) (K : Value → Store → Prop) (v130 : Value) (s165 : Store) (v24 : Value) : Prop :=
gop v181 false s182 (fun K => K v130 s182) fun v183 s184 =>
gop v181 false s184 (fun K => vop (iaddrS 1024 v183 (.int .i64 0)) s184 K) fun v185 s186 =>
gop v181 false s186 (fun K => vop (loadV true 1024 v185 s165.get) s186 K) fun v187 _ =>
gop v181 false s186 (fun K => vop (aggOf (buildL (List.replicate 1024 (unrle [(1, (.int .u8 0))])) [])) s186 K) fun v188 s189 =>
gop v181 false s189 (fun K => vop (eqA (.ints .u8 1024) true v187 v188) s189 K) fun v190 s191 =>
vop (pickV v181 (.bool true) v190) s191 fun v192 s193 =>
condH v192 (
K (.bool false) s193) (
vop (aggOf (buildL [(unrle [(1, (.int .i64 0))]), (unrle [(1, (.slice none 0 0))])] [])) s193 fun v194 s195 =>
Does Try.prog 7 [(.int .u8 1)] s195 fun v196 s197 =>
vop (aggOf (buildL [(unrle [(1, (.int .i64 0))]), (unrle [(1024, (.int .u8 0))])] [(0, (.int .i64 4)), (1, v196)])) s197 fun v198 s199 =>
nop (sliceOf 1 (buildL (List.replicate 1 (unrle [(1, (.int .i64 0)), (1024, (.int .u8 0))])) [(0, v198)])) s199 fun v200 s201 =>
vop (aggOf (buildL [(unrle [(1, (.int .i64 0))]), (unrle [(1, (.slice none 0 0))])] [(0, (.int .i64 4)), (1, v200)])) s201 fun v202 s203 =>
p3_2 s203 v194 v202 K v24)
def p3_4 (v154 : Value) (s159 : Store) (K : Value → Store → Prop) (v158 : Value) (v122 : Value) (s141 : Store) (v130 : Value) (v24 : Value) : Prop :=
gop v154 false s159 (fun K => vop (binI .neq v158 (.int .i64 2)) s159 K) fun v160 s161 =>
vop (pickV v154 (.bool true) v160) s161 fun v162 s163 =>
gop v162 false s163 (fun K => Does Try.prog 7 [(.int .u8 3)] s163 K) fun v164 s165 =>
gop v162 false s165 (fun K => K v122 s165) fun v166 s167 =>
gop v162 false s167 (fun K => vop (iaddrS 1024 v166 (.int .i64 1)) s167 K) fun v168 s169 =>
gop v162 false s169 (fun K => vop (loadV true 1024 v168 s165.get) s169 K) fun v170 _ =>
kop (gsel v162 false (loadV true 1024 v168) s141.get) v170 (
gop v162 false s169 (fun K => vop (eqA (.ints .u8 1024) true v170 v164) s169 K) fun v171 s172 =>
vop (pickV v162 (.bool true) v171) s172 fun v173 s174 =>
gop v173 false s174 (fun K => K v130 s174) fun v175 s176 =>
gop v173 false s176 (fun K => vop (lenSl v175) s176 K) fun v177 s178 =>
gop v173 false s178 (fun K => vop (binI .neq v177 (.int .i64 1)) s178 K) fun v179 s180 =>
vop (pickV v173 (.bool true) v179) s180 fun v181 s182 =>
p3_3 v181 s182 K v130 s165 v24)
def p3_5 (v2 : Value) (s133 : Store) (v24 : Value) (v124 : Value) (K : Value → Store → Prop) (v132 : Value) (v122 : Value) (v130 : Value) : Prop :=
vop (loadV true 2 v2 s133.get) s133 fun v134 s135 =>
Does Try.prog 10 [v134, v24, (.int .i64 5), (.int .i64 4)] s135 fun v136 s137 =>
vop (extractV v136 0) s137 fun _ s139 =>
vop (extractV v136 1) s139 fun v140 s141 =>
vop (binI .neq v124 (.int .i64 0)) s141 fun v142 s143 =>
gop v142 false s143 (fun K => K v132 s143) fun v144 s145 =>
gop v142 false s145 (fun K => vop (binI .neq v144 (.int .i64 0)) s145 K) fun v146 s147 =>
vop (pickV v142 (.bool true) v146) s147 fun v148 s149 =>
gop v148 false s149 (fun K => K v140 s149) fun v150 s151 =>
gop v148 false s151 (fun K => vop (binI .neq v150 (.int .i64 2)) s151 K) fun v152 s153 =>
vop (pickV v148 (.bool true) v152) s153 fun v154 s155 =>
gop v154 false s155 (fun K => K v122 s155) fun v156 s157 =>
gop v154 false s157 (fun K => vop (lenSl v156) s157 K) fun v158 s159 =>
p3_4 v154 s159 K v158 v122 s141 v130 v24
def p3_6 (v106 : Value) (s111 : Store) (K : Value → Store → Prop) (v110 : Value) (v2 : Value) (v24 : Value) : Prop :=
gop v106 false s111 (fun K => vop (lenSl v110) s111 K) fun v112 s113 =>
gop v106 false s113 (fun K => vop (binI .neq v112 (.int .i64 0)) s113 K) fun v114 s115 =>
vop (pickV v106 (.bool true) v114) s115 fun v116 s117 =>
condH v116 (
K (.bool false) s117) (
vop (loadV true 2 v2 s117.get) s117 fun v118 s119 =>
Does Try.prog 10 [v118, v24, (.int .i64 5), (.int .i64 2)] s119 fun v120 s121 =>
vop (extractV v120 0) s121 fun v122 s123 =>
vop (extractV v120 1) s123 fun v124 s125 =>
vop (loadV true 2 v2 s125.get) s125 fun v126 s127 =>
Does Try.prog 10 [v126, v24, (.int .i64 5), (.int .i64 3)] s127 fun v128 s129 =>
vop (extractV v128 0) s129 fun v130 s131 =>
vop (extractV v128 1) s131 fun v132 s133 =>
p3_5 v2 s133 v24 v124 K v132 v122 v130)
def p3_7 (v76 : Value) (v84 : Value) (s85 : Store) (K : Value → Store → Prop) (v36 : Value) (v48 : Value) (v60 : Value) (v2 : Value) (v24 : Value) : Prop :=
vop (pickV v76 (.bool true) v84) s85 fun v86 s87 =>
gop v86 false s87 (fun K => vop (loadV true 2 v36 s87.get) s87 K) fun v88 s89 =>
gop v86 false s89 (fun K => Does Try.prog 9 [v88, (.int .i64 2)] s89 K) fun v90 s91 =>
gop v86 false s91 (fun K => Does Try.prog 7 [(.int .u8 3)] s91 K) fun v92 s93 =>
gop v86 false s93 (fun K => vop (eqA (.ints .u8 1024) true v90 v92) s93 K) fun v94 s95 =>
vop (pickV v86 (.bool true) v94) s95 fun v96 s97 =>
gop v96 false s97 (fun K => vop (faddr 1 v48) s97 K) fun v98 s99 =>
gop v96 false s99 (fun K => vop (loadV false 1 v98 s99.get) s99 K) fun v100 s101 =>
gop v96 false s101 (fun K => vop (lenSl v100) s101 K) fun v102 s103 =>
gop v96 false s103 (fun K => vop (binI .neq v102 (.int .i64 1)) s103 K) fun v104 s105 =>
vop (pickV v96 (.bool true) v104) s105 fun v106 s107 =>
gop v106 false s107 (fun K => vop (faddr 1 v60) s107 K) fun v108 s109 =>
gop v106 false s109 (fun K => vop (loadV false 1 v108 s109.get) s109 K) fun v110 s111 =>
p3_6 v106 s111 K v110 v2 v24
def p3_8 (s59 : Store) (v56 : Value) (v34 : Value) (K : Value → Store → Prop) (v46 : Value) (v58 : Value) (v36 : Value) (v48 : Value) (v2 : Value) (v24 : Value) : Prop :=
nop (some (.cells (unrle [(1, (.int .i64 0)), (1, (.slice none 0 0))]) none, ptrTo)) s59 fun v60 s61 =>
eop (storeV 2 v60 v56 s61) fun _ s63 =>
vop (binI .neq v34 (.int .i64 0)) s63 fun v64 s65 =>
gop v64 false s65 (fun K => K v46 s65) fun v66 s67 =>
gop v64 false s67 (fun K => vop (binI .neq v66 (.int .i64 0)) s67 K) fun v68 s69 =>
vop (pickV v64 (.bool true) v68) s69 fun v70 s71 =>
gop v70 false s71 (fun K => K v58 s71) fun v72 s73 =>
gop v70 false s73 (fun K => vop (binI .neq v72 (.int .i64 0)) s73 K) fun v74 s75 =>
vop (pickV v70 (.bool true) v74) s75 fun v76 s77 =>
gop v76 false s77 (fun K => vop (loadV true 2 v36 s77.get) s77 K) fun v78 s79 =>
gop v76 false s79 (fun K => Does Try.prog 9 [v78, (.int .i64 1)] s79 K) fun v80 s81 =>
gop v76 false s81 (fun K => Does Try.prog 7 [(.int .u8 1)] s81 K) fun v82 s83 =>
gop v76 false s83 (fun K => vop (eqA (.ints .u8 1024) true v80 v82) s83 K) fun v84 s85 =>
p3_7 v76 v84 s85 K v36 v48 v60 v2 v24
def p3_9 (v30 : Value) (s33 : Store) (v32 : Value) (v2 : Value) (v24 : Value) (K : Value → Store → Prop) : Prop :=
vop (extractV v30 1) s33 fun v34 s35 =>
nop (some (.cells (unrle [(1, (.int .i64 0)), (1, (.slice none 0 0))]) none, ptrTo)) s35 fun v36 s37 =>
eop (storeV 2 v36 v32 s37) fun _ s39 =>
vop (loadV true 2 v2 s39.get) s39 fun v40 s41 =>
Does Try.prog 8 [v40, v24, (.int .i64 5), (.slice none 0 0)] s41 fun v42 s43 =>
vop (extractV v42 0) s43 fun v44 s45 =>
vop (extractV v42 1) s45 fun v46 s47 =>
nop (some (.cells (unrle [(1, (.int .i64 0)), (1, (.slice none 0 0))]) none, ptrTo)) s47 fun v48 s49 =>
eop (storeV 2 v48 v44 s49) fun _ s51 =>
vop (loadV true 2 v2 s51.get) s51 fun v52 s53 =>
Does Try.prog 8 [v52, v24, (.int .i64 1), (.slice none 0 0)] s53 fun v54 s55 =>
vop (extractV v54 0) s55 fun v56 s57 =>
vop (extractV v54 1) s57 fun v58 s59 =>
p3_8 s59 v56 v34 K v46 v58 v36 v48 v2 v24
def p3_10 (v6 : Value) (s7 : Store) (v2 : Value) (K : Value → Store → Prop) : Prop :=
vop (aggOf (buildL [(unrle [(1, (.int .u8 0))]), (unrle [(1, (.int .i64 0))]), (unrle [(1024, (.int .u8 0))])] [(0, (.int .u8 1)), (1, (.int .i64 1)), (2, v6)])) s7 fun v8 s9 =>
vop (aggOf (buildL [(unrle [(1, (.int .u8 0))]), (unrle [(1, (.int .i64 0))]), (unrle [(1024, (.int .u8 0))])] [(0, (.int .u8 2))])) s9 fun v10 s11 =>
Does Try.prog 7 [(.int .u8 2)] s11 fun v12 s13 =>
vop (aggOf (buildL [(unrle [(1, (.int .u8 0))]), (unrle [(1, (.int .i64 0))]), (unrle [(1024, (.int .u8 0))])] [(0, (.int .u8 1)), (1, (.int .i64 1)), (2, v12)])) s13 fun v14 s15 =>
Does Try.prog 7 [(.int .u8 3)] s15 fun v16 s17 =>
vop (aggOf (buildL [(unrle [(1, (.int .u8 0))]), (unrle [(1, (.int .i64 0))]), (unrle [(1024, (.int .u8 0))])] [(0, (.int .u8 1)), (1, (.int .i64 2)), (2, v16)])) s17 fun v18 s19 =>
Does Try.prog 7 [(.int .u8 1)] s19 fun v20 s21 =>
vop (aggOf (buildL [(unrle [(1, (.int .u8 0))]), (unrle [(1, (.int .i64 0))]), (unrle [(1024, (.int .u8 0))])] [(0, (.int .u8 1)), (1, (.int .i64 1)), (2, v20)])) s21 fun v22 s23 =>
nop (sliceOf 5 (buildL (List.replicate 5 (unrle [(1, (.int .u8 0)), (1, (.int .i64 0)), (1024, (.int .u8 0))])) [(0, v8), (1, v10), (2, v14), (3, v18), (4, v22)])) s23 fun v24 s25 =>
vop (loadV true 2 v2 s25.get) s25 fun v26 s27 =>
nop (sliceOf 2 (buildL (List.replicate 2 (unrle [(1, (.bool false))])) [(0, (.bool false)), (1, (.bool true))])) s27 fun v28 s29 =>
Does Try.prog 8 [v26, v24, (.int .i64 5), v28] s29 fun v30 s31 =>
vop (extractV v30 0) s31 fun v32 s33 =>
p3_9 v30 s33 v32 v2 v24 K
/-- undercroft/undercroftlaw05.PastNames -/
def p3 (K : Value → Store → Prop) (s : Store) : Prop :=
vop (aggOf (buildL [(unrle [(1, (.int .i64 0))]), (unrle [(1, (.slice none 0 0))])] [(0, (.int .i64 4))])) s fun v0 s1 =>
nop (some (.cells (unrle [(1, (.int .i64 0)), (1, (.slice none 0 0))]) none, ptrTo)) s1 fun v2 s3 =>
eop (storeV 2 v2 v0 s3) fun _ s5 =>
Does Try.prog 7 [(.int .u8 1)] s5 fun v6 s7 =>
p3_10 v6 s7 v2 K
theorem e3 (K : Value → Store → Prop) (s : Store) : bodyT Try.prog Try.f3 [] s K = p3 K s := by kernel_rfl
theorem d3 {K : Value → Store → Prop} {s : Store} (h : p3 K s) : Does Try.prog 3 [] s K := does_of_print Try.func3 (by kernel_rfl) ((e3 K s).symm ▸ h)
def p4_1 (v275 : Value) (v295 : Value) (s296 : Store) (K : Value → Store → Prop) (v271 : Value) (s274 : Store) (v0 : Value) (v144 : Value) (x214 : Value) (x233 : Value) (n231 : Value → Value → Store → Prop) : Prop :=
vop (pickV v275 v295 (.bool false)) s296 fun v297 s298 =>
gop v297 true s298 (fun K => vop (loadV true 2 v271 s274.get) s298 K) fun v299 _ =>
gop v297 true s298 (fun K => vop (faddr 5 v0) s298 K) fun v300 s301 =>
gop v297 true s301 (fun K => vop (loadV false 1 v300 s274.get) s301 K) fun v302 _ =>
gop v297 true s301 (fun K => Does Try.prog 9 [v299, v302] s301 K) fun v303 s304 =>
gop v297 true s304 (fun K => K v144 s304) fun v305 s306 =>
gop v297 true s306 (fun K => K x214 s306) fun v307 s308 =>
gop v297 true s308 (fun K => vop (iaddrS 1024 v305 v307) s308 K) fun v309 s310 =>
gop v297 true s310 (fun K => vop (loadV true 1024 v309 s304.get) s310 K) fun v311 _ =>
kop (gsel v297 true (loadV true 1024 v309) s274.get) v311 (
gop v297 true s310 (fun K => vop (eqA (.ints .u8 1024) false v303 v311) s310 K) fun v312 s313 =>
vop (pickV v297 v312 (.bool false)) s313 fun v314 s315 =>
vop (binI .add x233 (.int .i64 1)) s315 fun v316 s317 =>
n231 v314 v316 s317)
def p4_2 (v269 : Value) (s274 : Store) (K : Value → Store → Prop) (v0 : Value) (v211 : Value) (x233 : Value) (v271 : Value) (v144 : Value) (x214 : Value) (n231 : Value → Value → Store → Prop) : Prop :=
vop (binI .eql v269 (.int .i64 0)) s274 fun v275 s276 =>
gop v275 true s276 (fun K => vop (faddr 2 v0) s276 K) fun v277 s278 =>
gop v275 true s278 (fun K => vop (loadV false 1 v277 s274.get) s278 K) fun v279 _ =>
gop v275 true s278 (fun K => K v211 s278) fun v280 s281 =>
gop v275 true s281 (fun K => K x233 s281) fun v282 s283 =>
gop v275 true s283 (fun K => vop (iaddrS 1 v280 v282) s283 K) fun v284 s285 =>
gop v275 true s285 (fun K => vop (loadV false 1 v284 s274.get) s285 K) fun v286 _ =>
gop v275 true s285 (fun K => vop (iaddrS 1026 v279 v286) s285 K) fun v287 s288 =>
gop v275 true s288 (fun K => vop (faddr 1 v287) s288 K) fun v289 s290 =>
gop v275 true s290 (fun K => vop (loadV false 1 v289 s274.get) s290 K) fun v291 _ =>
gop v275 true s290 (fun K => vop (faddr 5 v0) s290 K) fun v292 s293 =>
gop v275 true s293 (fun K => vop (loadV false 1 v292 s274.get) s293 K) fun v294 _ =>
gop v275 true s293 (fun K => vop (binI .eql v291 v294) s293 K) fun v295 s296 =>
p4_1 v275 v295 s296 K v271 s274 v0 v144 x214 x233 n231
def p4_3 (v247 : Value) (x233 : Value) (s248 : Store) (v0 : Value) (K : Value → Store → Prop) (v211 : Value) (v144 : Value) (x214 : Value) (n231 : Value → Value → Store → Prop) : Prop :=
vop (iaddrS 1 v247 x233) s248 fun v249 s250 =>
eop (storeV 1 v249 (.bool true) s250) fun _ s252 =>
vop (faddr 0 v0) s252 fun v253 s254 =>
vop (loadV true 2 v253 s254.get) s254 fun v255 s256 =>
vop (faddr 2 v0) s256 fun v257 s258 =>
vop (loadV false 1 v257 s258.get) s258 fun v259 s260 =>
vop (faddr 3 v0) s260 fun v261 s262 =>
vop (loadV false 1 v261 s262.get) s262 fun v263 s264 =>
Does Try.prog 8 [v255, v259, v263, v247] s264 fun v265 s266 =>
vop (extractV v265 0) s266 fun v267 s268 =>
vop (extractV v265 1) s268 fun v269 s270 =>
nop (some (.cells (unrle [(1, (.int .i64 0)), (1, (.slice none 0 0))]) none, ptrTo)) s270 fun v271 s272 =>
eop (storeV 2 v271 v267 s272) fun _ s274 =>
p4_2 v269 s274 K v0 v211 x233 v271 v144 x214 n231
def p4_4 (v211 : Value) (s234 : Store) (x233 : Value) (K : Value → Store → Prop) (x232 : Value) (v0 : Value) (v144 : Value) (x214 : Value) (n231 : Value → Value → Store → Prop) (n213 : Value → Store → Prop) : Prop :=
vop (lenSl v211) s234 fun v235 s236 =>
vop (binI .lss x233 v235) s236 fun v237 s238 =>
gop v237 true s238 (fun K => K x232 s238) fun v239 s240 =>
gop v237 true s240 (fun K => vop (unV .not v239) s240 K) fun v241 s242 =>
vop (pickV v237 v241 (.bool false)) s242 fun v243 s244 =>
condH v243 (
vop (lenSl v211) s244 fun v245 s246 =>
nop (makeS (unrle [(1, (.bool false))]) 1 v245 v245) s246 fun v247 s248 =>
p4_3 v247 x233 s248 v0 K v211 v144 x214 n231) (
vop (unV .not x232) s244 fun v318 s319 =>
condH v318 (
K (.bool false) s319) (
vop (binI .add x214 (.int .i64 1)) s319 fun v320 s321 =>
n213 v320 s321))
def p4_5 (v144 : Value) (s215 : Store) (x214 : Value) (v54 : Value) (v0 : Value) (v211 : Value) (K : Value → Store → Prop) (n213 : Value → Store → Prop) : Prop :=
vop (lenSl v144) s215 fun v216 s217 =>
vop (binI .lss x214 v216) s217 fun v218 s219 =>
condH v218 (
vop (loadV true 2 v54 s219.get) s219 fun v220 _ =>
vop (faddr 5 v0) s219 fun v221 s222 =>
vop (loadV false 1 v221 s219.get) s222 fun v223 _ =>
Does Try.prog 9 [v220, v223] s222 fun v224 s225 =>
vop (iaddrS 1024 v144 x214) s225 fun v226 s227 =>
vop (loadV true 1024 v226 s225.get) s227 fun v228 _ =>
kop (loadV true 1024 v226 s219.get) v228 (
vop (eqA (.ints .u8 1024) false v228 v224) s227 fun v229 s230 =>
lop 2 (fun (n231 : Value → Value → Store → Prop) x232 x233 s234 =>
p4_4 v211 s234 x233 K x232 v0 v144 x214 n231 n213) v229 (.int .i64 0) s230)) (
K (.bool true) s219)
def p4_6 (v186 : Value) (s195 : Store) (K : Value → Store → Prop) (v194 : Value) (s193 : Store) (s177 : Store) (v192 : Value) (v0 : Value) (v144 : Value) (v54 : Value) : Prop :=
gop v186 false s195 (fun K => vop (iaddrS 1024 v194 (.int .i64 0)) s195 K) fun v196 s197 =>
gop v186 false s197 (fun K => vop (loadV true 1024 v196 s193.get) s197 K) fun v198 _ =>
kop (gsel v186 false (loadV true 1024 v196) s177.get) v198 (
gop v186 false s197 (fun K => vop (eqA (.ints .u8 1024) true v198 v192) s197 K) fun v199 s200 =>
vop (pickV v186 (.bool true) v199) s200 fun v201 s202 =>
condH v201 (
K (.bool false) s202) (
vop (faddr 2 v0) s202 fun v203 s204 =>
vop (loadV false 1 v203 s204.get) s204 fun v205 s206 =>
vop (faddr 3 v0) s206 fun v207 s208 =>
vop (loadV false 1 v207 s208.get) s208 fun v209 s210 =>
Does Try.prog 13 [v205, v209] s210 fun v211 s212 =>
lop 1 (fun (n213 : Value → Store → Prop) x214 s215 =>
p4_5 v144 s215 x214 v54 v0 v211 K n213) (.int .i64 0) s212))
def p4_7 (v171 : Value) (s149 : Store) (s172 : Store) (v170 : Value) (v144 : Value) (K : Value → Store → Prop) (v54 : Value) (v0 : Value) : Prop :=
vop (loadV false 1 v171 s149.get) s172 fun v173 _ =>
Does Try.prog 9 [v170, v173] s172 fun v174 s175 =>
Does Try.prog 17 [v144, v174] s175 fun v176 s177 =>
vop (unV .not v176) s177 fun v178 s179 =>
gop v178 false s179 (fun K => K v144 s179) fun v180 s181 =>
gop v178 false s181 (fun K => vop (lenSl v180) s181 K) fun v182 s183 =>
gop v178 false s183 (fun K => vop (binI .eql v182 (.int .i64 0)) s183 K) fun v184 s185 =>
vop (pickV v178 (.bool true) v184) s185 fun v186 s187 =>
gop v186 false s187 (fun K => vop (loadV true 2 v54 s177.get) s187 K) fun v188 _ =>
gop v186 false s187 (fun K => vop (faddr 5 v0) s187 K) fun v189 s190 =>
gop v186 false s190 (fun K => vop (loadV false 1 v189 s177.get) s190 K) fun v191 _ =>
gop v186 false s190 (fun K => Does Try.prog 9 [v188, v191] s190 K) fun v192 s193 =>
gop v186 false s193 (fun K => K v144 s193) fun v194 s195 =>
p4_6 v186 s195 K v194 s193 s177 v192 v0 v144 v54
def p4_8 (v148 : Value) (v0 : Value) (s149 : Store) (K : Value → Store → Prop) (v32 : Value) (v144 : Value) (v54 : Value) : Prop :=
condH v148 (
vop (faddr 5 v0) s149 fun v150 s151 =>
vop (loadV false 1 v150 s151.get) s151 fun v152 s153 =>
vop (binI .lss v152 (.int .i64 0)) s153 fun v154 s155 =>
gop v154 false s155 (fun K => vop (faddr 5 v0) s155 K) fun v156 s157 =>
gop v154 false s157 (fun K => vop (loadV false 1 v156 s157.get) s157 K) fun v158 s159 =>
gop v154 false s159 (fun K => vop (faddr 0 v0) s159 K) fun v160 s161 =>
gop v154 false s161 (fun K => vop (faddr 0 v160) s161 K) fun v162 s163 =>
gop v154 false s163 (fun K => vop (loadV false 1 v162 s163.get) s163 K) fun v164 s165 =>
gop v154 false s165 (fun K => vop (binI .geq v158 v164) s165 K) fun v166 s167 =>
vop (pickV v154 (.bool true) v166) s167 fun v168 s169 =>
K v168 s169) (
vop (loadV true 2 v32 s149.get) s149 fun v170 _ =>
vop (faddr 5 v0) s149 fun v171 s172 =>
p4_7 v171 s149 s172 v170 v144 K v54 v0)
def p4_9 (v124 : Value) (K : Value → Store → Prop) (s125 : Store) (v0 : Value) (v32 : Value) (v54 : Value) : Prop :=
condH v124 (
K (.bool false) s125) (
vop (faddr 0 v0) s125 fun v126 s127 =>
vop (loadV true 2 v126 s127.get) s127 fun v128 s129 =>
vop (faddr 2 v0) s129 fun v130 s131 =>
vop (loadV false 1 v130 s131.get) s131 fun v132 s133 =>
vop (faddr 3 v0) s133 fun v134 s135 =>
vop (loadV false 1 v134 s135.get) s135 fun v136 s137 =>
vop (faddr 5 v0) s137 fun v138 s139 =>
vop (loadV false 1 v138 s139.get) s139 fun v140 s141 =>
Does Try.prog 10 [v128, v132, v136, v140] s141 fun v142 s143 =>
vop (extractV v142 0) s143 fun v144 s145 =>
vop (extractV v142 1) s145 fun v146 s147 =>
vop (binI .neq v146 (.int .i64 0)) s147 fun v148 s149 =>
p4_8 v148 v0 s149 K v32 v144 v54)
def p4_10 (v90 : Value) (s99 : Store) (K : Value → Store → Prop) (v98 : Value) (v94 : Value) (v82 : Value) (v32 : Value) (v54 : Value) (v0 : Value) : Prop :=
gop v90 true s99 (fun K => vop (binI .sub v98 (.int .i64 1)) s99 K) fun v100 s101 =>
gop v90 true s101 (fun K => vop (iaddrS 1026 v94 v100) s101 K) fun v102 s103 =>
gop v90 true s103 (fun K => vop (faddr 0 v102) s103 K) fun v104 s105 =>
gop v90 true s105 (fun K => vop (loadV false 1 v104 s105.get) s105 K) fun v106 s107 =>
gop v90 true s107 (fun K => vop (binI .eql v106 (.int .u8 2)) s107 K) fun v108 s109 =>
gop v82 false s109 (fun K => vop (pickV v90 v108 (.bool false)) s109 K) fun v110 s111 =>
gop v82 false s111 (fun K => K v110 s111) fun v112 s113 =>
gop v112 true s113 (fun K => vop (loadV true 2 v32 s113.get) s113 K) fun v114 s115 =>
gop v112 true s115 (fun K => vop (loadV true 2 v54 s115.get) s115 K) fun v116 s117 =>
gop v112 true s117 (fun K => Does Try.prog 16 [v114, v116] s117 K) fun v118 s119 =>
gop v112 true s119 (fun K => vop (unV .not v118) s119 K) fun v120 s121 =>
gop v82 false s121 (fun K => vop (pickV v112 v120 (.bool false)) s121 K) fun v122 s123 =>
vop (pickV v82 (.bool true) v122) s123 fun v124 s125 =>
p4_9 v124 K s125 v0 v32 v54
def p4_11 (v60 : Value) (v32 : Value) (s61 : Store) (K : Value → Store → Prop) (v0 : Value) (v54 : Value) : Prop :=
condH v60 (
vop (faddr 0 v32) s61 fun v62 s63 =>
vop (loadV false 1 v62 s63.get) s63 fun v64 s65 =>
vop (binI .eql v64 (.int .i64 0)) s65 fun v66 s67 =>
gop v66 true s67 (fun K => vop (faddr 1 v32) s67 K) fun v68 s69 =>
gop v66 true s69 (fun K => vop (loadV false 1 v68 s69.get) s69 K) fun v70 s71 =>
gop v66 true s71 (fun K => vop (lenSl v70) s71 K) fun v72 s73 =>
gop v66 true s73 (fun K => vop (binI .eql v72 (.int .i64 0)) s73 K) fun v74 s75 =>
vop (pickV v66 v74 (.bool false)) s75 fun v76 s77 =>
K v76 s77) (
vop (loadV true 2 v32 s61.get) s61 fun v78 s79 =>
Does Try.prog 11 [v78] s79 fun v80 s81 =>
vop (binI .neq v80 (.int .i64 0)) s81 fun v82 s83 =>
gop v82 false s83 (fun K => vop (faddr 3 v0) s83 K) fun v84 s85 =>
gop v82 false s85 (fun K => vop (loadV false 1 v84 s85.get) s85 K) fun v86 s87 =>
gop v82 false s87 (fun K => vop (binI .gtr v86 (.int .i64 0)) s87 K) fun v88 s89 =>
gop v82 false s89 (fun K => K v88 s89) fun v90 s91 =>
gop v90 true s91 (fun K => vop (faddr 2 v0) s91 K) fun v92 s93 =>
gop v90 true s93 (fun K => vop (loadV false 1 v92 s93.get) s93 K) fun v94 s95 =>
gop v90 true s95 (fun K => vop (faddr 3 v0) s95 K) fun v96 s97 =>
gop v90 true s97 (fun K => vop (loadV false 1 v96 s97.get) s97 K) fun v98 s99 =>
p4_10 v90 s99 K v98 v94 v82 v32 v54 v0)
def p4_12 (v0 : Value) (s39 : Store) (v38 : Value) (v30 : Value) (K : Value → Store → Prop) (v32 : Value) : Prop :=
vop (faddr 2 v0) s39 fun v40 s41 =>
vop (loadV false 1 v40 s41.get) s41 fun v42 s43 =>
vop (faddr 3 v0) s43 fun v44 s45 =>
vop (loadV false 1 v44 s45.get) s45 fun v46 s47 =>
Does Try.prog 8 [v38, v42, v46, (.slice none 0 0)] s47 fun v48 s49 =>
vop (extractV v48 0) s49 fun v50 s51 =>
vop (extractV v48 1) s51 fun v52 s53 =>
nop (some (.cells (unrle [(1, (.int .i64 0)), (1, (.slice none 0 0))]) none, ptrTo)) s53 fun v54 s55 =>
eop (storeV 2 v54 v50 s55) fun _ s57 =>
vop (binI .neq v30 v52) s57 fun v58 s59 =>
condH v58 (
K (.bool false) s59) (
vop (binI .neq v30 (.int .i64 0)) s59 fun v60 s61 =>
p4_11 v60 v32 s61 K v0 v54)
def p4_13 (v0 : Value) (s13 : Store) (v12 : Value) (K : Value → Store → Prop) : Prop :=
vop (faddr 2 v0) s13 fun v14 s15 =>
vop (loadV false 1 v14 s15.get) s15 fun v16 s17 =>
vop (faddr 3 v0) s17 fun v18 s19 =>
vop (loadV false 1 v18 s19.get) s19 fun v20 s21 =>
vop (faddr 4 v0) s21 fun v22 s23 =>
vop (loadV false 1 v22 s23.get) s23 fun v24 s25 =>
Does Try.prog 8 [v12, v16, v20, v24] s25 fun v26 s27 =>
vop (extractV v26 0) s27 fun v28 s29 =>
vop (extractV v26 1) s29 fun v30 s31 =>
nop (some (.cells (unrle [(1, (.int .i64 0)), (1, (.slice none 0 0))]) none, ptrTo)) s31 fun v32 s33 =>
eop (storeV 2 v32 v28 s33) fun _ s35 =>
vop (faddr 0 v0) s35 fun v36 s37 =>
vop (loadV true 2 v36 s37.get) s37 fun v38 s39 =>
p4_12 v0 s39 v38 v30 K v32
/-- undercroft/undercroftlaw05.PastSome -/
def p4 (K : Value → Store → Prop) (a0 : Value) (s : Store) : Prop :=
nop (boxN a0) s fun v0 s1 =>
Does Try.prog 12 [] s1 fun v2 s3 =>
vop (unV .not v2) s3 fun v4 s5 =>
condH v4 (
K (.bool false) s5) (
vop (loadV true 6 v0 s5.get) s5 fun v6 s7 =>
Does Try.prog 15 [v6] s7 fun v8 s9 =>
condH v8 (
K (.bool true) s9) (
vop (faddr 0 v0) s9 fun v10 s11 =>
vop (loadV true 2 v10 s11.get) s11 fun v12 s13 =>
p4_13 v0 s13 v12 K))
theorem e4 (K : Value → Store → Prop) (a0 : Value) (s : Store) : bodyT Try.prog Try.f4 [a0] s K = p4 K a0 s := by kernel_rfl
theorem d4 {K : Value → Store → Prop} {a0 : Value} {s : Store} (h : p4 K a0 s) : Does Try.prog 4 [a0] s K := does_of_print Try.func4 (by kernel_rfl) ((e4 K a0 s).symm ▸ h)
def p5_1 (v114 : Value) (s115 : Store) (v96 : Value) (K : Value → Store → Prop) (v98 : Value) : Prop :=
vop (extractV v114 0) s115 fun v116 s117 =>
vop (extractV v114 1) s117 fun v118 s119 =>
nop (some (.cells (unrle [(1, (.int .i64 0)), (1, (.slice none 0 0))]) none, ptrTo)) s119 fun v120 s121 =>
eop (storeV 2 v120 v116 s121) fun _ s123 =>
vop (binI .eql v118 v96) s123 fun v124 s125 =>
gop v124 true s125 (fun K => K v118 s125) fun v126 s127 =>
gop v124 true s127 (fun K => vop (binI .neq v126 (.int .i64 0)) s127 K) fun v128 s129 =>
gop v124 true s129 (fun K => K v128 s129) fun v130 s131 =>
gop v130 false s131 (fun K => vop (loadV true 2 v120 s131.get) s131 K) fun v132 s133 =>
gop v130 false s133 (fun K => vop (loadV true 2 v98 s133.get) s133 K) fun v134 s135 =>
gop v130 false s135 (fun K => Does Try.prog 16 [v132, v134] s135 K) fun v136 s137 =>
gop v124 true s137 (fun K => vop (pickV v130 (.bool true) v136) s137 K) fun v138 s139 =>
vop (pickV v124 v138 (.bool false)) s139 fun v140 s141 =>
K v140 s141
def p5_2 (v92 : Value) (s93 : Store) (v72 : Value) (K : Value → Store → Prop) (v74 : Value) (a1 : Value) (v0 : Value) : Prop :=
vop (extractV v92 0) s93 fun v94 s95 =>
vop (extractV v92 1) s95 fun v96 s97 =>
nop (some (.cells (unrle [(1, (.int .i64 0)), (1, (.slice none 0 0))]) none, ptrTo)) s97 fun v98 s99 =>
eop (storeV 2 v98 v94 s99) fun _ s101 =>
vop (binI .neq v72 (.int .i64 0)) s101 fun v102 s103 =>
condH v102 (
vop (binI .neq v96 (.int .i64 0)) s103 fun v104 s105 =>
K v104 s105) (
vop (loadV true 2 v74 s103.get) s103 fun v106 s107 =>
vop (lenSl a1) s107 fun v108 s109 =>
vop (faddr 4 v0) s109 fun v110 s111 =>
vop (loadV false 1 v110 s111.get) s111 fun v112 s113 =>
Does Try.prog 8 [v106, a1, v108, v112] s113 fun v114 s115 =>
p5_1 v114 s115 v96 K v98)
def p5_3 (v64 : Value) (v60 : Value) (v66 : Value) (s67 : Store) (a1 : Value) (v0 : Value) (K : Value → Store → Prop) : Prop :=
Does Try.prog 8 [v64, v60, v66, (.slice none 0 0)] s67 fun v68 s69 =>
vop (extractV v68 0) s69 fun v70 s71 =>
vop (extractV v68 1) s71 fun v72 s73 =>
nop (some (.cells (unrle [(1, (.int .i64 0)), (1, (.slice none 0 0))]) none, ptrTo)) s73 fun v74 s75 =>
eop (storeV 2 v74 v70 s75) fun _ s77 =>
eop (appendV 1026 1040 (.slice none 0 0) v60 s77) fun v78 s79 =>
eop (appendV 1026 1040 v78 a1 s79) fun v80 s81 =>
vop (faddr 0 v0) s81 fun v82 s83 =>
vop (loadV true 2 v82 s83.get) s83 fun v84 s85 =>
vop (lenSl v80) s85 fun v86 s87 =>
vop (faddr 4 v0) s87 fun v88 s89 =>
vop (loadV false 1 v88 s89.get) s89 fun v90 s91 =>
Does Try.prog 8 [v84, v80, v86, v90] s91 fun v92 s93 =>
p5_2 v92 s93 v72 K v74 a1 v0
def p5_4 (v40 : Value) (v0 : Value) (s41 : Store) (x20 : Value) (x19 : Value) (n18 : Value → Value → Store → Prop) (a1 : Value) (K : Value → Store → Prop) : Prop :=
condH v40 (
vop (faddr 2 v0) s41 fun v42 s43 =>
vop (loadV false 1 v42 s43.get) s43 fun v44 s45 =>
vop (iaddrS 1026 v44 x20) s45 fun v46 s47 =>
vop (loadV true 1026 v46 s47.get) s47 fun v48 s49 =>
nop (sliceOf 1 (buildL (List.replicate 1 (unrle [(1, (.int .u8 0)), (1, (.int .i64 0)), (1024, (.int .u8 0))])) [(0, v48)])) s49 fun v50 s51 =>
eop (appendV 1026 1040 x19 v50 s51) fun v52 s53 =>
vop (binI .add x20 (.int .i64 1)) s53 fun v54 s55 =>
n18 v52 v54 s55) (
vop (aggOf (buildL [(unrle [(1, (.int .u8 0))]), (unrle [(1, (.int .i64 0))]), (unrle [(1024, (.int .u8 0))])] [(0, (.int .u8 2))])) s41 fun v56 s57 =>
nop (sliceOf 1 (buildL (List.replicate 1 (unrle [(1, (.int .u8 0)), (1, (.int .i64 0)), (1024, (.int .u8 0))])) [(0, v56)])) s57 fun v58 s59 =>
eop (appendV 1026 1040 x19 v58 s59) fun v60 s61 =>
vop (faddr 0 v0) s61 fun v62 s63 =>
vop (loadV true 2 v62 s63.get) s63 fun v64 s65 =>
vop (lenSl v60) s65 fun v66 s67 =>
p5_3 v64 v60 v66 s67 a1 v0 K)
def p5_5 (v16 : Value) (K : Value → Store → Prop) (s17 : Store) (v0 : Value) (a1 : Value) : Prop :=
condH v16 (
K (.bool true) s17) (
lop 2 (fun (n18 : Value → Value → Store → Prop) x19 x20 s21 =>
vop (faddr 2 v0) s21 fun v22 s23 =>
vop (loadV false 1 v22 s23.get) s23 fun v24 s25 =>
vop (lenSl v24) s25 fun v26 s27 =>
vop (binI .lss x20 v26) s27 fun v28 s29 =>
gop v28 true s29 (fun K => K x20 s29) fun v30 s31 =>
gop v28 true s31 (fun K => vop (faddr 3 v0) s31 K) fun v32 s33 =>
gop v28 true s33 (fun K => vop (loadV false 1 v32 s33.get) s33 K) fun v34 s35 =>
gop v28 true s35 (fun K => Does Try.prog 18 [v34, (.int .i64 121)] s35 K) fun v36 s37 =>
gop v28 true s37 (fun K => vop (binI .lss v30 v36) s37 K) fun v38 s39 =>
vop (pickV v28 v38 (.bool false)) s39 fun v40 s41 =>
p5_4 v40 v0 s41 x20 x19 n18 a1 K) (.slice none 0 0) (.int .i64 0) s17)
/-- undercroft/undercroftlaw05.PastCut -/
def p5 (K : Value → Store → Prop) (a0 a1 : Value) (s : Store) : Prop :=
nop (boxN a0) s fun v0 s1 =>
Does Try.prog 12 [] s1 fun v2 s3 =>
vop (unV .not v2) s3 fun v4 s5 =>
condH v4 (
K (.bool false) s5) (
vop (loadV true 6 v0 s5.get) s5 fun v6 s7 =>
Does Try.prog 15 [v6] s7 fun v8 s9 =>
gop v8 false s9 (fun K => K a1 s9) fun v10 s11 =>
gop v8 false s11 (fun K => vop (lenSl v10) s11 K) fun v12 s13 =>
gop v8 false s13 (fun K => vop (binI .gtr v12 (.int .i64 120)) s13 K) fun v14 s15 =>
vop (pickV v8 (.bool true) v14) s15 fun v16 s17 =>
p5_5 v16 K s17 v0 a1)
theorem e5 (K : Value → Store → Prop) (a0 a1 : Value) (s : Store) : bodyT Try.prog Try.f5 [a0, a1] s K = p5 K a0 a1 s := by kernel_rfl
theorem d5 {K : Value → Store → Prop} {a0 a1 : Value} {s : Store} (h : p5 K a0 a1 s) : Does Try.prog 5 [a0, a1] s K := does_of_print Try.func5 (by kernel_rfl) ((e5 K a0 a1 s).symm ▸ h)
def p6_1 (v107 : Value) (s125 : Store) (K : Value → Store → Prop) (v124 : Value) (s118 : Store) (s89 : Store) (v119 : Value) (v117 : Value) (x83 : Value) (v30 : Value) (x84 : Value) (a2 : Value) (n82 : Value → Value → Store → Prop) : Prop :=
gop v107 false s125 (fun K => vop (loadV false 1 v124 s118.get) s125 K) fun v126 _ =>
kop (gsel v107 false (loadV false 1 v124) s89.get) v126 (
gop v107 false s125 (fun K => Does Try.prog 9 [v119, v126] s125 K) fun v127 s128 =>
gop v107 false s128 (fun K => vop (eqA (.ints .u8 1024) false v117 v127) s128 K) fun v129 s130 =>
vop (pickV v107 (.bool true) v129) s130 fun v131 s132 =>
condH v131 (
K (.bool false) s132) (
gop x83 false s132 (fun K => K v30 s132) fun v133 s134 =>
gop x83 false s134 (fun K => K x84 s134) fun v135 s136 =>
gop x83 false s136 (fun K => vop (iaddrS 1 v133 v135) s136 K) fun v137 s138 =>
gop x83 false s138 (fun K => vop (loadV false 1 v137 s138.get) s138 K) fun v139 s140 =>
gop x83 false s140 (fun K => K a2 s140) fun v141 s142 =>
gop x83 false s142 (fun K => vop (binI .eql v139 v141) s142 K) fun v143 s144 =>
vop (pickV x83 (.bool true) v143) s144 fun v145 s146 =>
vop (binI .add x84 (.int .i64 1)) s146 fun v147 s148 =>
n82 v145 v147 s148))
def p6_2 (v93 : Value) (s103 : Store) (K : Value → Store → Prop) (v102 : Value) (s89 : Store) (v101 : Value) (v0 : Value) (v30 : Value) (x84 : Value) (v2 : Value) (x83 : Value) (a2 : Value) (n82 : Value → Value → Store → Prop) : Prop :=
gop v93 false s103 (fun K => vop (loadV false 1 v102 s89.get) s103 K) fun v104 _ =>
gop v93 false s103 (fun K => vop (binI .geq v101 v104) s103 K) fun v105 s106 =>
vop (pickV v93 (.bool true) v105) s106 fun v107 s108 =>
gop v107 false s108 (fun K => vop (loadV true 2 v0 s89.get) s108 K) fun v109 _ =>
gop v107 false s108 (fun K => K v30 s108) fun v110 s111 =>
gop v107 false s111 (fun K => K x84 s111) fun v112 s113 =>
gop v107 false s113 (fun K => vop (iaddrS 1 v110 v112) s113 K) fun v114 s115 =>
gop v107 false s115 (fun K => vop (loadV false 1 v114 s89.get) s115 K) fun v116 _ =>
gop v107 false s115 (fun K => Does Try.prog 9 [v109, v116] s115 K) fun v117 s118 =>
gop v107 false s118 (fun K => vop (loadV true 2 v2 s118.get) s118 K) fun v119 _ =>
kop (gsel v107 false (loadV true 2 v2) s89.get) v119 (
gop v107 false s118 (fun K => K v30 s118) fun v120 s121 =>
gop v107 false s121 (fun K => K x84 s121) fun v122 s123 =>
gop v107 false s123 (fun K => vop (iaddrS 1 v120 v122) s123 K) fun v124 s125 =>
p6_1 v107 s125 K v124 s118 s89 v119 v117 x83 v30 x84 a2 n82)
def p6_3 (v181 : Value) (s182 : Store) (K : Value → Store → Prop) (v0 : Value) (s172 : Store) (a2 : Value) (v2 : Value) (x83 : Value) : Prop :=
gop v181 true s182 (fun K => vop (loadV true 2 v0 s172.get) s182 K) fun v183 _ =>
gop v181 true s182 (fun K => vop (loadV true 2 v0 s172.get) s182 K) fun v184 _ =>
gop v181 true s182 (fun K => Does Try.prog 16 [v183, v184] s182 K) fun v185 s186 =>
vop (pickV v181 v185 (.bool false)) s186 fun v187 s188 =>
gop v187 true s188 (fun K => vop (loadV true 2 v0 s186.get) s188 K) fun v189 _ =>
gop v187 true s188 (fun K => K a2 s188) fun v190 s191 =>
gop v187 true s191 (fun K => Does Try.prog 9 [v189, v190] s191 K) fun v192 s193 =>
gop v187 true s193 (fun K => vop (loadV true 2 v2 s193.get) s193 K) fun v194 _ =>
kop (gsel v187 true (loadV true 2 v2) s186.get) v194 (
gop v187 true s193 (fun K => K a2 s193) fun v195 s196 =>
gop v187 true s196 (fun K => Does Try.prog 9 [v194, v195] s196 K) fun v197 s198 =>
gop v187 true s198 (fun K => K x83 s198) fun v199 s200 =>
gop v187 true s200 (fun K => vop (eqA (.ints .u8 1024) true v192 v197) s200 K) fun v201 s202 =>
gop v187 true s202 (fun K => vop (eqB false v199 v201) s202 K) fun v203 s204 =>
vop (pickV v187 v203 (.bool false)) s204 fun v205 s206 =>
K v205 s206)
def p6_4 (v153 : Value) (s158 : Store) (K : Value → Store → Prop) (v30 : Value) (v157 : Value) (v2 : Value) (v0 : Value) (a2 : Value) (x83 : Value) : Prop :=
gop v153 true s158 (fun K => K v30 s158) fun v159 s160 =>
gop v153 true s160 (fun K => vop (lenSl v159) s160 K) fun v161 s162 =>
gop v153 true s162 (fun K => vop (binI .eql v161 (.int .i64 0)) s162 K) fun v163 s164 =>
gop v153 true s164 (fun K => vop (eqB false v157 v163) s164 K) fun v165 s166 =>
vop (pickV v153 v165 (.bool false)) s166 fun v167 s168 =>
gop v167 true s168 (fun K => vop (loadV true 2 v2 s158.get) s168 K) fun v169 _ =>
gop v167 true s168 (fun K => vop (loadV true 2 v0 s158.get) s168 K) fun v170 _ =>
gop v167 true s168 (fun K => Does Try.prog 16 [v169, v170] s168 K) fun v171 s172 =>
gop v167 true s172 (fun K => K v30 s172) fun v173 s174 =>
gop v167 true s174 (fun K => vop (lenSl v173) s174 K) fun v175 s176 =>
gop v167 true s176 (fun K => vop (binI .eql v175 (.int .i64 0)) s176 K) fun v177 s178 =>
gop v167 true s178 (fun K => vop (eqB false v171 v177) s178 K) fun v179 s180 =>
vop (pickV v167 v179 (.bool false)) s180 fun v181 s182 =>
p6_3 v181 s182 K v0 s172 a2 v2 x83
def p6_5 (v88 : Value) (v30 : Value) (x84 : Value) (s89 : Store) (K : Value → Store → Prop) (v0 : Value) (v2 : Value) (x83 : Value) (a2 : Value) (n82 : Value → Value → Store → Prop) : Prop :=
condH v88 (
vop (iaddrS 1 v30 x84) s89 fun v90 s91 =>
vop (loadV false 1 v90 s89.get) s91 fun v92 _ =>
vop (binI .lss v92 (.int .i64 0)) s91 fun v93 s94 =>
gop v93 false s94 (fun K => K v30 s94) fun v95 s96 =>
gop v93 false s96 (fun K => K x84 s96) fun v97 s98 =>
gop v93 false s98 (fun K => vop (iaddrS 1 v95 v97) s98 K) fun v99 s100 =>
gop v93 false s100 (fun K => vop (loadV false 1 v99 s89.get) s100 K) fun v101 _ =>
gop v93 false s100 (fun K => vop (faddr 0 v0) s100 K) fun v102 s103 =>
p6_2 v93 s103 K v102 s89 v101 v0 v30 x84 v2 x83 a2 n82) (
vop (loadV true 2 v2 s89.get) s89 fun v149 _ =>
vop (loadV true 2 v0 s89.get) s89 fun v150 _ =>
Does Try.prog 19 [v149, v150] s89 fun v151 s152 =>
Does Try.prog 14 [v30, v151] s152 fun v153 s154 =>
gop v153 true s154 (fun K => vop (loadV true 2 v0 s154.get) s154 K) fun v155 _ =>
gop v153 true s154 (fun K => vop (loadV true 2 v2 s154.get) s154 K) fun v156 _ =>
gop v153 true s154 (fun K => Does Try.prog 16 [v155, v156] s154 K) fun v157 s158 =>
p6_4 v153 s158 K v30 v157 v2 v0 a2 x83)
def p6_6 (v56 : Value) (v30 : Value) (s57 : Store) (K : Value → Store → Prop) (v0 : Value) (v2 : Value) (a2 : Value) : Prop :=
condH v56 (
vop (lenSl v30) s57 fun v58 s59 =>
vop (binI .eql v58 (.int .i64 0)) s59 fun v60 s61 =>
gop v60 true s61 (fun K => vop (loadV true 2 v0 s61.get) s61 K) fun v62 s63 =>
gop v60 true s63 (fun K => vop (loadV true 2 v2 s63.get) s63 K) fun v64 s65 =>
gop v60 true s65 (fun K => Does Try.prog 16 [v62, v64] s65 K) fun v66 s67 =>
gop v60 true s67 (fun K => vop (unV .not v66) s67 K) fun v68 s69 =>
vop (pickV v60 v68 (.bool false)) s69 fun v70 s71 =>
gop v70 true s71 (fun K => vop (loadV true 2 v2 s71.get) s71 K) fun v72 s73 =>
gop v70 true s73 (fun K => vop (loadV true 2 v0 s73.get) s73 K) fun v74 s75 =>
gop v70 true s75 (fun K => Does Try.prog 16 [v72, v74] s75 K) fun v76 s77 =>
gop v70 true s77 (fun K => vop (unV .not v76) s77 K) fun v78 s79 =>
vop (pickV v70 v78 (.bool false)) s79 fun v80 s81 =>
K v80 s81) (
lop 2 (fun (n82 : Value → Value → Store → Prop) x83 x84 s85 =>
vop (lenSl v30) s85 fun v86 s87 =>
vop (binI .lss x84 v86) s87 fun v88 s89 =>
p6_5 v88 v30 x84 s89 K v0 v2 x83 a2 n82) (.bool false) (.int .i64 0) s57)
def p6_7 (v0 : Value) (s31 : Store) (K : Value → Store → Prop) (v2 : Value) (v30 : Value) (a2 : Value) : Prop :=
vop (loadV true 2 v0 s31.get) s31 fun v32 s33 =>
Does Try.prog 11 [v32] s33 fun v34 s35 =>
vop (binI .neq v34 (.int .i64 0)) s35 fun v36 s37 =>
gop v36 false s37 (fun K => vop (loadV true 2 v2 s37.get) s37 K) fun v38 s39 =>
gop v36 false s39 (fun K => Does Try.prog 11 [v38] s39 K) fun v40 s41 =>
gop v36 false s41 (fun K => vop (binI .neq v40 (.int .i64 0)) s41 K) fun v42 s43 =>
vop (pickV v36 (.bool true) v42) s43 fun v44 s45 =>
gop v44 false s45 (fun K => vop (faddr 0 v0) s45 K) fun v46 s47 =>
gop v44 false s47 (fun K => vop (loadV false 1 v46 s47.get) s47 K) fun v48 s49 =>
gop v44 false s49 (fun K => vop (faddr 0 v2) s49 K) fun v50 s51 =>
gop v44 false s51 (fun K => vop (loadV false 1 v50 s51.get) s51 K) fun v52 s53 =>
gop v44 false s53 (fun K => vop (binI .neq v48 v52) s53 K) fun v54 s55 =>
vop (pickV v44 (.bool true) v54) s55 fun v56 s57 =>
p6_6 v56 v30 s57 K v0 v2 a2
def p6_8 (v8 : Value) (s9 : Store) (K : Value → Store → Prop) (v2 : Value) (v0 : Value) (a2 : Value) : Prop :=
vop (loadV false 1 v8 s9.get) s9 fun v10 s11 =>
vop (lenSl v10) s11 fun v12 s13 =>
vop (binI .gtr v12 (.int .i64 120)) s13 fun v14 s15 =>
gop v14 false s15 (fun K => vop (faddr 1 v2) s15 K) fun v16 s17 =>
gop v14 false s17 (fun K => vop (loadV false 1 v16 s17.get) s17 K) fun v18 s19 =>
gop v14 false s19 (fun K => vop (lenSl v18) s19 K) fun v20 s21 =>
gop v14 false s21 (fun K => vop (binI .gtr v20 (.int .i64 120)) s21 K) fun v22 s23 =>
vop (pickV v14 (.bool true) v22) s23 fun v24 s25 =>
condH v24 (
K (.bool true) s25) (
vop (loadV true 2 v0 s25.get) s25 fun v26 s27 =>
vop (loadV true 2 v2 s27.get) s27 fun v28 s29 =>
Does Try.prog 19 [v26, v28] s29 fun v30 s31 =>
p6_7 v0 s31 K v2 v30 a2)
/-- undercroft/undercroftlaw05.PastSame -/
def p6 (K : Value → Store → Prop) (a0 a1 a2 : Value) (s : Store) : Prop :=
nop (boxN a0) s fun v0 s1 =>
nop (boxN a1) s1 fun v2 s3 =>
Does Try.prog 12 [] s3 fun v4 s5 =>
vop (unV .not v4) s5 fun v6 s7 =>
condH v6 (
K (.bool false) s7) (
vop (faddr 1 v0) s7 fun v8 s9 =>
p6_8 v8 s9 K v2 v0 a2)
theorem e6 (K : Value → Store → Prop) (a0 a1 a2 : Value) (s : Store) : bodyT Try.prog Try.f6 [a0, a1, a2] s K = p6 K a0 a1 a2 s := by kernel_rfl
theorem d6 {K : Value → Store → Prop} {a0 a1 a2 : Value} {s : Store} (h : p6 K a0 a1 a2 s) : Does Try.prog 6 [a0, a1, a2] s K := does_of_print Try.func6 (by kernel_rfl) ((e6 K a0 a1 a2 s).symm ▸ h)
/-- undercroft/undercroftlaw05.letter -/
def p7 (K : Value → Store → Prop) (a0 : Value) (s : Store) : Prop :=
nop (some (.cells (unrle [(1024, (.int .u8 0))]) none, ptrTo)) s fun v0 s1 =>
nop (some (.cells (unrle [(1024, (.int .u8 0))]) none, ptrTo)) s1 fun v2 s3 =>
lop 1 (fun (n4 : Value → Store → Prop) x5 s6 =>
vop (binI .lss x5 (.int .i64 1024)) s6 fun v7 s8 =>
condH v7 (
vop (iaddrA 1024 1 v2 x5) s8 fun v9 s10 =>
eop (storeV 1 v9 a0 s10) fun _ s12 =>
vop (binI .add x5 (.int .i64 1)) s12 fun v13 s14 =>
n4 v13 s14) (
vop (loadV true 1024 v2 s8.get) s8 fun v15 s16 =>
eop (storeV 1024 v0 v15 s16) fun _ s18 =>
vop (loadV true 1024 v0 s18.get) s18 fun v19 _ =>
K v19 s18)) (.int .i64 0) s3
theorem e7 (K : Value → Store → Prop) (a0 : Value) (s : Store) : bodyT Try.prog Try.f7 [a0] s K = p7 K a0 s := by kernel_rfl
theorem d7 {K : Value → Store → Prop} {a0 : Value} {s : Store} (h : p7 K a0 s) : Does Try.prog 7 [a0] s K := does_of_print Try.func7 (by kernel_rfl) ((e7 K a0 s).symm ▸ h)
def p8_1 (v74 : Value) (s75 : Store) (a3 : Value) (x69 : Value) (K : Value → Store → Prop) (a1 : Value) (v35 : Value) (k73 : Store → Prop) : Prop :=
vop (loadV false 1 v74 s75.get) s75 fun v76 s77 =>
vop (lenSl a3) s77 fun v78 s79 =>
vop (binI .lss x69 v78) s79 fun v80 s81 =>
gop v80 true s81 (fun K => K a3 s81) fun v82 s83 =>
gop v80 true s83 (fun K => K x69 s83) fun v84 s85 =>
gop v80 true s85 (fun K => vop (iaddrS 1 v82 v84) s85 K) fun v86 s87 =>
gop v80 true s87 (fun K => vop (loadV false 1 v86 s87.get) s87 K) fun v88 s89 =>
vop (pickV v80 v88 (.bool false)) s89 fun v90 s91 =>
condH v90 (
vop (iaddrS 1026 a1 v76) s91 fun v92 s93 =>
vop (loadV true 1026 v92 s93.get) s93 fun v94 s95 =>
cop Try.prog (callD Try.prog (.func (.func 22) #[] #[v35]) [v94]) s95 fun _ s97 =>
k73 s97) (
k73 s91)
def p8_2 (x69 : Value) (v66 : Value) (s70 : Store) (v64 : Value) (a3 : Value) (K : Value → Store → Prop) (a1 : Value) (v35 : Value) (n68 : Value → Store → Prop) (v0 : Value) (v2 : Value) : Prop :=
vop (binI .lss x69 v66) s70 fun v71 s72 =>
condH v71 (
jop 0 (fun (k73 : Store → Prop) =>
vop (iaddrS 1 v64 x69) s72 fun v74 s75 =>
p8_1 v74 s75 a3 x69 K a1 v35 k73) fun s98 =>
vop (binI .add x69 (.int .i64 1)) s98 fun v99 s100 =>
n68 v99 s100) (
vop (faddr 0 v0) s72 fun v101 s102 =>
vop (loadV false 1 v101 s102.get) s102 fun v103 s104 =>
vop (loadV false 1 v35 s104.get) s104 fun v105 s106 =>
Does Try.prog 24 [v103, v105] s106 fun v107 s108 =>
eop (storeV 2 v2 v107 s108) fun _ s110 =>
vop (loadV true 2 v2 s110.get) s110 fun v111 _ =>
K (.tuple #[v111, (.int .i64 0)]) s110)
def p8_3 (x46 : Value) (v43 : Value) (s47 : Store) (v41 : Value) (v35 : Value) (n45 : Value → Store → Prop) (a1 : Value) (a2 : Value) (a3 : Value) (K : Value → Store → Prop) (v0 : Value) (v2 : Value) : Prop :=
vop (binI .lss x46 v43) s47 fun v48 s49 =>
condH v48 (
vop (iaddrS 1026 v41 x46) s49 fun v50 s51 =>
vop (loadV true 1026 v50 s51.get) s51 fun v52 s53 =>
nop (some (.cells (unrle [(1, (.int .u8 0)), (1, (.int .i64 0)), (1024, (.int .u8 0))]) none, ptrTo)) s53 fun v54 s55 =>
eop (storeV 1026 v54 v52 s55) fun _ s57 =>
vop (loadV true 1026 v54 s57.get) s57 fun v58 s59 =>
cop Try.prog (callD Try.prog (.func (.func 22) #[] #[v35]) [v58]) s59 fun _ s61 =>
vop (binI .add x46 (.int .i64 1)) s61 fun v62 s63 =>
n45 v62 s63) (
Does Try.prog 13 [a1, a2] s49 fun v64 s65 =>
vop (lenSl v64) s65 fun v66 s67 =>
lop 1 (fun (n68 : Value → Store → Prop) x69 s70 =>
p8_2 x69 v66 s70 v64 a3 K a1 v35 n68 v0 v2) (.int .i64 0) s67)
def p8_4 (v24 : Value) (s25 : Store) (v2 : Value) (K : Value → Store → Prop) (v0 : Value) (a1 : Value) (a2 : Value) (a3 : Value) : Prop :=
condH v24 (
vop (aggOf (buildL [(unrle [(1, (.int .i64 0))]), (unrle [(1, (.slice none 0 0))])] [])) s25 fun v26 s27 =>
eop (storeV 2 v2 v26 s27) fun _ s29 =>
vop (loadV true 2 v2 s29.get) s29 fun v30 _ =>
K (.tuple #[v30, (.int .i64 2)]) s29) (
vop (loadV true 2 v0 s25.get) s25 fun v31 s32 =>
Does Try.prog 21 [v31] s32 fun v33 s34 =>
nop (some (.cells (unrle [(1, (.map none))]) none, ptrTo)) s34 fun v35 s36 =>
eop (storeV 1 v35 v33 s36) fun _ s38 =>
Does Try.prog 23 [a1, a2] s38 fun v39 s40 =>
vop (sliceSl 1026 a1 none (some v39)) s40 fun v41 s42 =>
vop (lenSl v41) s42 fun v43 s44 =>
lop 1 (fun (n45 : Value → Store → Prop) x46 s47 =>
p8_3 x46 v43 s47 v41 v35 n45 a1 a2 a3 K v0 v2) (.int .i64 0) s44)
/-- undercroft/past.After -/
def p8 (K : Value → Store → Prop) (a0 a1 a2 a3 : Value) (s : Store) : Prop :=
nop (boxN a0) s fun v0 s1 =>
nop (some (.cells (unrle [(1, (.int .i64 0)), (1, (.slice none 0 0))]) none, ptrTo)) s1 fun v2 s3 =>
vop (loadV true 2 v0 s3.get) s3 fun v4 s5 =>
Does Try.prog 20 [v4, a1] s5 fun v6 s7 =>
vop (unV .not v6) s7 fun v8 s9 =>
gop v8 false s9 (fun K => K a2 s9) fun v10 s11 =>
gop v8 false s11 (fun K => vop (binI .lss v10 (.int .i64 0)) s11 K) fun v12 s13 =>
vop (pickV v8 (.bool true) v12) s13 fun v14 s15 =>
gop v14 false s15 (fun K => K a2 s15) fun v16 s17 =>
gop v14 false s17 (fun K => K a1 s17) fun v18 s19 =>
gop v14 false s19 (fun K => vop (lenSl v18) s19 K) fun v20 s21 =>
gop v14 false s21 (fun K => vop (binI .gtr v16 v20) s21 K) fun v22 s23 =>
vop (pickV v14 (.bool true) v22) s23 fun v24 s25 =>
p8_4 v24 s25 v2 K v0 a1 a2 a3
theorem e8 (K : Value → Store → Prop) (a0 a1 a2 a3 : Value) (s : Store) : bodyT Try.prog Try.f8 [a0, a1, a2, a3] s K = p8 K a0 a1 a2 a3 s := by kernel_rfl
theorem d8 {K : Value → Store → Prop} {a0 a1 a2 a3 : Value} {s : Store} (h : p8 K a0 a1 a2 a3 s) : Does Try.prog 8 [a0, a1, a2, a3] s K := does_of_print Try.func8 (by kernel_rfl) ((e8 K a0 a1 a2 a3 s).symm ▸ h)
/-- undercroft/undercroftlaw05.block -/
def p9 (K : Value → Store → Prop) (a0 a1 : Value) (s : Store) : Prop :=
nop (boxN a0) s fun v0 s1 =>
nop (some (.cells (unrle [(1024, (.int .u8 0))]) none, ptrTo)) s1 fun v2 s3 =>
lop 1 (fun (n4 : Value → Store → Prop) x5 s6 =>
vop (faddr 1 v0) s6 fun v7 s8 =>
vop (loadV false 1 v7 s8.get) s8 fun v9 s10 =>
vop (lenSl v9) s10 fun v11 s12 =>
vop (binI .lss x5 v11) s12 fun v13 s14 =>
condH v13 (
vop (faddr 1 v0) s14 fun v15 s16 =>
vop (loadV false 1 v15 s16.get) s16 fun v17 s18 =>
vop (iaddrS 1025 v17 x5) s18 fun v19 s20 =>
vop (faddr 0 v19) s20 fun v21 s22 =>
vop (loadV false 1 v21 s22.get) s22 fun v23 s24 =>
vop (binI .eql v23 a1) s24 fun v25 s26 =>
condH v25 (
vop (faddr 1 v0) s26 fun v27 s28 =>
vop (loadV false 1 v27 s28.get) s28 fun v29 s30 =>
vop (iaddrS 1025 v29 x5) s30 fun v31 s32 =>
vop (faddr 1 v31) s32 fun v33 s34 =>
vop (loadV true 1024 v33 s34.get) s34 fun v35 s36 =>
eop (storeV 1024 v2 v35 s36) fun _ s38 =>
vop (loadV true 1024 v2 s38.get) s38 fun v39 _ =>
K v39 s38) (
vop (binI .add x5 (.int .i64 1)) s26 fun v40 s41 =>
n4 v40 s41)) (
vop (aggOf (buildL (List.replicate 1024 (unrle [(1, (.int .u8 0))])) [])) s14 fun v42 s43 =>
eop (storeV 1024 v2 v42 s43) fun _ s45 =>
vop (loadV true 1024 v2 s45.get) s45 fun v46 _ =>
K v46 s45)) (.int .i64 0) s3
theorem e9 (K : Value → Store → Prop) (a0 a1 : Value) (s : Store) : bodyT Try.prog Try.f9 [a0, a1] s K = p9 K a0 a1 s := by kernel_rfl
theorem d9 {K : Value → Store → Prop} {a0 a1 : Value} {s : Store} (h : p9 K a0 a1 s) : Does Try.prog 9 [a0, a1] s K := does_of_print Try.func9 (by kernel_rfl) ((e9 K a0 a1 s).symm ▸ h)
def p10_1 (v49 : Value) (x54 : Value) (s57 : Store) (a1 : Value) (v2 : Value) (v38 : Value) (v34 : Value) (k58 : Store → Prop) : Prop :=
vop (iaddrS 1 v49 x54) s57 fun v59 s60 =>
vop (loadV false 1 v59 s60.get) s60 fun v61 s62 =>
vop (iaddrS 1026 a1 v61) s62 fun v63 s64 =>
vop (faddr 1 v63) s64 fun v65 s66 =>
vop (loadV false 1 v65 s62.get) s66 fun v67 _ =>
vop (loadV false 1 v2 s62.get) s66 fun v68 _ =>
vop (binI .eql v67 v68) s66 fun v69 s70 =>
condH v69 (
vop (iaddrS 1026 a1 v61) s70 fun v71 s72 =>
vop (faddr 2 v71) s72 fun v73 s74 =>
vop (loadV true 1024 v73 s74.get) s74 fun v75 s76 =>
cop Try.prog (callD Try.prog (.func (.func 25) #[] #[v2, v38, v34]) [v75]) s76 fun _ s78 =>
k58 s78) (
k58 s70)
def p10_2 (v2 : Value) (s44 : Store) (s41 : Store) (v43 : Value) (v38 : Value) (v34 : Value) (a1 : Value) (a2 : Value) (K : Value → Store → Prop) : Prop :=
vop (loadV false 1 v2 s44.get) s44 fun v45 _ =>
kop (loadV false 1 v2 s41.get) v45 (
vop (lookupH (.int .i64) (.agg (unrle [(1024, (.int .u8 0))]).toArray) v43 v45 false s44.get) s44 fun v46 _ =>
cop Try.prog (callD Try.prog (.func (.func 25) #[] #[v2, v38, v34]) [v46]) s44 fun _ s48 =>
Does Try.prog 13 [a1, a2] s48 fun v49 s50 =>
vop (lenSl v49) s50 fun v51 s52 =>
lop 1 (fun (n53 : Value → Store → Prop) x54 s55 =>
vop (binI .lss x54 v51) s55 fun v56 s57 =>
condH v56 (
jop 0 (fun (k58 : Store → Prop) =>
p10_1 v49 x54 s57 a1 v2 v38 v34 k58) fun s79 =>
vop (binI .add x54 (.int .i64 1)) s79 fun v80 s81 =>
n53 v80 s81) (
vop (loadV false 1 v34 s57.get) s57 fun v82 s83 =>
K (.tuple #[v82, (.int .i64 0)]) s83)) (.int .i64 0) s52)
def p10_3 (v22 : Value) (s23 : Store) (K : Value → Store → Prop) (v2 : Value) (v0 : Value) (v12 : Value) (a1 : Value) (a2 : Value) : Prop :=
gop v22 false s23 (fun K => vop (loadV false 1 v2 s23.get) s23 K) fun v24 s25 =>
gop v22 false s25 (fun K => vop (faddr 0 v0) s25 K) fun v26 s27 =>
gop v22 false s27 (fun K => vop (loadV false 1 v26 s27.get) s27 K) fun v28 s29 =>
gop v22 false s29 (fun K => vop (binI .geq v24 v28) s29 K) fun v30 s31 =>
vop (pickV v22 (.bool true) v30) s31 fun v32 s33 =>
condH v32 (
K (.tuple #[(.slice none 0 0), (.int .i64 2)]) s33) (
nop (some (.cells (unrle [(1, (.slice none 0 0))]) none, ptrTo)) s33 fun v34 s35 =>
nop (some (.map [] 0, fun i => .map (some i))) s35 fun v36 s37 =>
nop (some (.cells (unrle [(1, (.map none))]) none, ptrTo)) s37 fun v38 s39 =>
eop (storeV 1 v38 v36 s39) fun _ s41 =>
vop (loadV true 2 v12 s41.get) s41 fun v42 _ =>
Does Try.prog 21 [v42] s41 fun v43 s44 =>
p10_2 v2 s44 s41 v43 v38 v34 a1 a2 K)
/-- undercroft/past.Block -/
def p10 (K : Value → Store → Prop) (a0 a1 a2 a3 : Value) (s : Store) : Prop :=
nop (boxN a0) s fun v0 s1 =>
nop (boxN a3) s1 fun v2 s3 =>
vop (loadV true 2 v0 s3.get) s3 fun v4 s5 =>
Does Try.prog 8 [v4, a1, a2, (.slice none 0 0)] s5 fun v6 s7 =>
vop (extractV v6 0) s7 fun v8 s9 =>
vop (extractV v6 1) s9 fun v10 s11 =>
nop (some (.cells (unrle [(1, (.int .i64 0)), (1, (.slice none 0 0))]) none, ptrTo)) s11 fun v12 s13 =>
eop (storeV 2 v12 v8 s13) fun _ s15 =>
vop (binI .neq v10 (.int .i64 0)) s15 fun v16 s17 =>
gop v16 false s17 (fun K => vop (loadV false 1 v2 s17.get) s17 K) fun v18 s19 =>
gop v16 false s19 (fun K => vop (binI .lss v18 (.int .i64 0)) s19 K) fun v20 s21 =>
vop (pickV v16 (.bool true) v20) s21 fun v22 s23 =>
p10_3 v22 s23 K v2 v0 v12 a1 a2
theorem e10 (K : Value → Store → Prop) (a0 a1 a2 a3 : Value) (s : Store) : bodyT Try.prog Try.f10 [a0, a1, a2, a3] s K = p10 K a0 a1 a2 a3 s := by kernel_rfl
theorem d10 {K : Value → Store → Prop} {a0 a1 a2 a3 : Value} {s : Store} (h : p10 K a0 a1 a2 a3 s) : Does Try.prog 10 [a0, a1, a2, a3] s K := does_of_print Try.func10 (by kernel_rfl) ((e10 K a0 a1 a2 a3 s).symm ▸ h)
/-- undercroft/past.Whole -/
def p11 (K : Value → Store → Prop) (a0 : Value) (s : Store) : Prop :=
nop (boxN a0) s fun v0 s1 =>
vop (faddr 0 v0) s1 fun v2 s3 =>
vop (loadV false 1 v2 s3.get) s3 fun v4 s5 =>
vop (binI .lss v4 (.int .i64 1)) s5 fun v6 s7 =>
gop v6 false s7 (fun K => vop (faddr 0 v0) s7 K) fun v8 s9 =>
gop v6 false s9 (fun K => vop (loadV false 1 v8 s9.get) s9 K) fun v10 s11 =>
gop v6 false s11 (fun K => vop (binI .gtr v10 (.int .i64 1048576)) s11 K) fun v12 s13 =>
vop (pickV v6 (.bool true) v12) s13 fun v14 s15 =>
condH v14 (
K (.int .i64 2) s15) (
vop (faddr 1 v0) s15 fun v16 s17 =>
vop (loadV false 1 v16 s17.get) s17 fun v18 s19 =>
vop (lenSl v18) s19 fun v20 s21 =>
lop 2 (fun (n22 : Value → Value → Store → Prop) x23 x24 s25 =>
vop (binI .lss x24 v20) s25 fun v26 s27 =>
condH v26 (
vop (iaddrS 1025 v18 x24) s27 fun v28 s29 =>
vop (loadV true 1025 v28 s29.get) s29 fun v30 s31 =>
nop (some (.cells (unrle [(1, (.int .i64 0)), (1024, (.int .u8 0))]) none, ptrTo)) s31 fun v32 s33 =>
eop (storeV 1025 v32 v30 s33) fun _ s35 =>
vop (faddr 0 v32) s35 fun v36 s37 =>
vop (loadV false 1 v36 s37.get) s37 fun v38 s39 =>
vop (binI .leq v38 x23) s39 fun v40 s41 =>
gop v40 false s41 (fun K => vop (faddr 0 v32) s41 K) fun v42 s43 =>
gop v40 false s43 (fun K => vop (loadV false 1 v42 s43.get) s43 K) fun v44 s45 =>
gop v40 false s45 (fun K => vop (faddr 0 v0) s45 K) fun v46 s47 =>
gop v40 false s47 (fun K => vop (loadV false 1 v46 s47.get) s47 K) fun v48 s49 =>
gop v40 false s49 (fun K => vop (binI .geq v44 v48) s49 K) fun v50 s51 =>
vop (pickV v40 (.bool true) v50) s51 fun v52 s53 =>
gop v52 false s53 (fun K => vop (faddr 1 v32) s53 K) fun v54 s55 =>
gop v52 false s55 (fun K => vop (loadV true 1024 v54 s55.get) s55 K) fun v56 s57 =>
gop v52 false s57 (fun K => vop (aggOf (buildL (List.replicate 1024 (unrle [(1, (.int .u8 0))])) [])) s57 K) fun v58 s59 =>
gop v52 false s59 (fun K => vop (eqA (.ints .u8 1024) false v56 v58) s59 K) fun v60 s61 =>
vop (pickV v52 (.bool true) v60) s61 fun v62 s63 =>
condH v62 (
K (.int .i64 2) s63) (
vop (faddr 0 v32) s63 fun v64 s65 =>
vop (loadV false 1 v64 s65.get) s65 fun v66 s67 =>
vop (binI .add x24 (.int .i64 1)) s67 fun v68 s69 =>
n22 v66 v68 s69)) (
K (.int .i64 0) s27)) (.int .i64 (-1)) (.int .i64 0) s21)
theorem e11 (K : Value → Store → Prop) (a0 : Value) (s : Store) : bodyT Try.prog Try.f11 [a0] s K = p11 K a0 s := by kernel_rfl
theorem d11 {K : Value → Store → Prop} {a0 : Value} {s : Store} (h : p11 K a0 s) : Does Try.prog 11 [a0] s K := does_of_print Try.func11 (by kernel_rfl) ((e11 K a0 s).symm ▸ h)
def p12_1 (v98 : Value) (v107 : Value) (s108 : Store) (K : Value → Store → Prop) (v48 : Value) (v2 : Value) : Prop :=
vop (pickV v98 v107 (.bool false)) s108 fun v109 s110 =>
gop v109 true s110 (fun K => K v48 s110) fun v111 s112 =>
gop v109 true s112 (fun K => nop (sliceOf 3 (buildL (List.replicate 3 (unrle [(1, (.int .i64 0))])) [(0, (.int .i64 2)), (1, (.int .i64 3)), (2, (.int .i64 4))])) s112 K) fun v113 s114 =>
gop v109 true s114 (fun K => Does Try.prog 14 [v111, v113] s114 K) fun v115 s116 =>
vop (pickV v109 v115 (.bool false)) s116 fun v117 s118 =>
gop v117 true s118 (fun K => vop (loadV true 2 v2 s116.get) s118 K) fun v119 _ =>
gop v117 true s118 (fun K => Does Try.prog 11 [v119] s118 K) fun v120 s121 =>
gop v117 true s121 (fun K => vop (binI .eql v120 (.int .i64 0)) s121 K) fun v122 s123 =>
vop (pickV v117 v122 (.bool false)) s123 fun v124 s125 =>
gop v124 true s125 (fun K => vop (aggOf (buildL [(unrle [(1, (.int .i64 0))]), (unrle [(1, (.slice none 0 0))])] [])) s125 K) fun v126 s127 =>
gop v124 true s127 (fun K => Does Try.prog 11 [v126] s127 K) fun v128 s129 =>
gop v124 true s129 (fun K => vop (binI .neq v128 (.int .i64 0)) s129 K) fun v130 s131 =>
vop (pickV v124 v130 (.bool false)) s131 fun v132 s133 =>
K v132 s133
def p12_2 (v87 : Value) (s88 : Store) (K : Value → Store → Prop) (v44 : Value) (s68 : Store) (v48 : Value) (v2 : Value) : Prop :=
gop v87 true s88 (fun K => Does Try.prog 7 [(.int .u8 1)] s88 K) fun v89 s90 =>
gop v87 true s90 (fun K => K v44 s90) fun v91 s92 =>
gop v87 true s92 (fun K => vop (iaddrS 1024 v91 (.int .i64 0)) s92 K) fun v93 s94 =>
gop v87 true s94 (fun K => vop (loadV true 1024 v93 s90.get) s94 K) fun v95 _ =>
kop (gsel v87 true (loadV true 1024 v93) s68.get) v95 (
gop v87 true s94 (fun K => vop (eqA (.ints .u8 1024) false v95 v89) s94 K) fun v96 s97 =>
vop (pickV v87 v96 (.bool false)) s97 fun v98 s99 =>
gop v98 true s99 (fun K => Does Try.prog 7 [(.int .u8 2)] s99 K) fun v100 s101 =>
gop v98 true s101 (fun K => K v44 s101) fun v102 s103 =>
gop v98 true s103 (fun K => vop (iaddrS 1024 v102 (.int .i64 1)) s103 K) fun v104 s105 =>
gop v98 true s105 (fun K => vop (loadV true 1024 v104 s101.get) s105 K) fun v106 _ =>
kop (gsel v98 true (loadV true 1024 v104) s90.get) v106 (
gop v98 true s105 (fun K => vop (eqA (.ints .u8 1024) false v106 v100) s105 K) fun v107 s108 =>
p12_1 v98 v107 s108 K v48 v2))
def p12_3 (v65 : Value) (s68 : Store) (K : Value → Store → Prop) (v36 : Value) (s49 : Store) (v67 : Value) (v44 : Value) (v48 : Value) (v2 : Value) : Prop :=
gop v65 true s68 (fun K => vop (faddr 1 v36) s68 K) fun v69 s70 =>
gop v65 true s70 (fun K => vop (loadV false 1 v69 s68.get) s70 K) fun v71 _ =>
kop (gsel v65 true (loadV false 1 v69) s49.get) v71 (
gop v65 true s70 (fun K => vop (iaddrS 1025 v71 (.int .i64 0)) s70 K) fun v72 s73 =>
gop v65 true s73 (fun K => vop (loadV true 1025 v72 s68.get) s73 K) fun v74 _ =>
kop (gsel v65 true (loadV true 1025 v72) s49.get) v74 (
gop v65 true s73 (fun K => vop (aggOf (buildL [(unrle [(1, (.int .i64 0))]), (unrle [(1024, (.int .u8 0))])] [(0, (.int .i64 1)), (1, v67)])) s73 K) fun v75 s76 =>
gop v65 true s76 (fun K => vop (eqA (.fields [(0, 1, (.one (.int .i64))), (1, 1024, (.ints .u8 1024))]) false v74 v75) s76 K) fun v77 s78 =>
vop (pickV v65 v77 (.bool false)) s78 fun v79 s80 =>
gop v79 true s80 (fun K => K v44 s80) fun v81 s82 =>
gop v79 true s82 (fun K => vop (lenSl v81) s82 K) fun v83 s84 =>
gop v79 true s84 (fun K => vop (binI .eql v83 (.int .i64 2)) s84 K) fun v85 s86 =>
vop (pickV v79 v85 (.bool false)) s86 fun v87 s88 =>
p12_2 v87 s88 K v44 s68 v48 v2))
def p12_4 (v42 : Value) (s43 : Store) (v24 : Value) (v34 : Value) (K : Value → Store → Prop) (v36 : Value) (v2 : Value) : Prop :=
vop (extractV v42 0) s43 fun v44 s45 =>
vop (extractV v42 1) s45 fun v46 s47 =>
Does Try.prog 13 [v24, (.int .i64 5)] s47 fun v48 s49 =>
vop (binI .eql v34 (.int .i64 0)) s49 fun v50 s51 =>
gop v50 true s51 (fun K => K v46 s51) fun v52 s53 =>
gop v50 true s53 (fun K => vop (binI .eql v52 (.int .i64 0)) s53 K) fun v54 s55 =>
vop (pickV v50 v54 (.bool false)) s55 fun v56 s57 =>
gop v56 true s57 (fun K => vop (faddr 1 v36) s57 K) fun v58 s59 =>
gop v56 true s59 (fun K => vop (loadV false 1 v58 s49.get) s59 K) fun v60 _ =>
gop v56 true s59 (fun K => vop (lenSl v60) s59 K) fun v61 s62 =>
gop v56 true s62 (fun K => vop (binI .eql v61 (.int .i64 1)) s62 K) fun v63 s64 =>
vop (pickV v56 v63 (.bool false)) s64 fun v65 s66 =>
gop v65 true s66 (fun K => Does Try.prog 7 [(.int .u8 2)] s66 K) fun v67 s68 =>
p12_3 v65 s68 K v36 s49 v67 v44 v48 v2
def p12_5 (v16 : Value) (s17 : Store) (v8 : Value) (v10 : Value) (v14 : Value) (v2 : Value) (K : Value → Store → Prop) : Prop :=
vop (aggOf (buildL [(unrle [(1, (.int .u8 0))]), (unrle [(1, (.int .i64 0))]), (unrle [(1024, (.int .u8 0))])] [(0, (.int .u8 1)), (1, (.int .i64 2)), (2, v16)])) s17 fun v18 s19 =>
Does Try.prog 7 [(.int .u8 1)] s19 fun v20 s21 =>
vop (aggOf (buildL [(unrle [(1, (.int .u8 0))]), (unrle [(1, (.int .i64 0))]), (unrle [(1024, (.int .u8 0))])] [(0, (.int .u8 1)), (1, (.int .i64 1)), (2, v20)])) s21 fun v22 s23 =>
nop (sliceOf 5 (buildL (List.replicate 5 (unrle [(1, (.int .u8 0)), (1, (.int .i64 0)), (1024, (.int .u8 0))])) [(0, v8), (1, v10), (2, v14), (3, v18), (4, v22)])) s23 fun v24 s25 =>
vop (loadV true 2 v2 s25.get) s25 fun v26 s27 =>
nop (sliceOf 1 (buildL (List.replicate 1 (unrle [(1, (.bool false))])) [(0, (.bool true))])) s27 fun v28 s29 =>
Does Try.prog 8 [v26, v24, (.int .i64 5), v28] s29 fun v30 s31 =>
vop (extractV v30 0) s31 fun v32 s33 =>
vop (extractV v30 1) s33 fun v34 s35 =>
nop (some (.cells (unrle [(1, (.int .i64 0)), (1, (.slice none 0 0))]) none, ptrTo)) s35 fun v36 s37 =>
eop (storeV 2 v36 v32 s37) fun _ s39 =>
vop (loadV true 2 v2 s39.get) s39 fun v40 s41 =>
Does Try.prog 10 [v40, v24, (.int .i64 5), (.int .i64 1)] s41 fun v42 s43 =>
p12_4 v42 s43 v24 v34 K v36 v2
/-- undercroft/undercroftlaw05.lives -/
def p12 (K : Value → Store → Prop) (s : Store) : Prop :=
vop (aggOf (buildL [(unrle [(1, (.int .i64 0))]), (unrle [(1, (.slice none 0 0))])] [(0, (.int .i64 4))])) s fun v0 s1 =>
nop (some (.cells (unrle [(1, (.int .i64 0)), (1, (.slice none 0 0))]) none, ptrTo)) s1 fun v2 s3 =>
eop (storeV 2 v2 v0 s3) fun _ s5 =>
Does Try.prog 7 [(.int .u8 1)] s5 fun v6 s7 =>
vop (aggOf (buildL [(unrle [(1, (.int .u8 0))]), (unrle [(1, (.int .i64 0))]), (unrle [(1024, (.int .u8 0))])] [(0, (.int .u8 1)), (1, (.int .i64 1)), (2, v6)])) s7 fun v8 s9 =>
vop (aggOf (buildL [(unrle [(1, (.int .u8 0))]), (unrle [(1, (.int .i64 0))]), (unrle [(1024, (.int .u8 0))])] [(0, (.int .u8 2))])) s9 fun v10 s11 =>
Does Try.prog 7 [(.int .u8 2)] s11 fun v12 s13 =>
vop (aggOf (buildL [(unrle [(1, (.int .u8 0))]), (unrle [(1, (.int .i64 0))]), (unrle [(1024, (.int .u8 0))])] [(0, (.int .u8 1)), (1, (.int .i64 1)), (2, v12)])) s13 fun v14 s15 =>
Does Try.prog 7 [(.int .u8 3)] s15 fun v16 s17 =>
p12_5 v16 s17 v8 v10 v14 v2 K
theorem e12 (K : Value → Store → Prop) (s : Store) : bodyT Try.prog Try.f12 [] s K = p12 K s := by kernel_rfl
theorem d12 {K : Value → Store → Prop} {s : Store} (h : p12 K s) : Does Try.prog 12 [] s K := does_of_print Try.func12 (by kernel_rfl) ((e12 K s).symm ▸ h)
/-- undercroft/past.Pending -/
def p13 (K : Value → Store → Prop) (a0 a1 : Value) (s : Store) : Prop :=
vop (minMaxV true [a1, (.int .i64 0)]) s fun v0 s1 =>
vop (lenSl a0) s1 fun v2 s3 =>
vop (minMaxV false [v0, v2]) s3 fun v4 s5 =>
Does Try.prog 23 [a0, v4] s5 fun v6 s7 =>
lop 2 (fun (n8 : Value → Value → Store → Prop) x9 x10 s11 =>
vop (binI .lss x10 v4) s11 fun v12 s13 =>
condH v12 (
jop 1 (fun (k14 : Value → Store → Prop) =>
vop (iaddrS 1026 a0 x10) s13 fun v15 s16 =>
vop (faddr 0 v15) s16 fun v17 s18 =>
vop (loadV false 1 v17 s18.get) s18 fun v19 s20 =>
vop (binI .eql v19 (.int .u8 1)) s20 fun v21 s22 =>
condH v21 (
nop (sliceOf 1 (buildL (List.replicate 1 (unrle [(1, (.int .i64 0))])) [(0, x10)])) s22 fun v23 s24 =>
eop (appendV 1 8 x9 v23 s24) fun v25 s26 =>
k14 v25 s26) (
k14 x9 s22)) fun x27 s28 =>
vop (binI .add x10 (.int .i64 1)) s28 fun v29 s30 =>
n8 x27 v29 s30) (
K x9 s13)) (.slice none 0 0) v6 s7
theorem e13 (K : Value → Store → Prop) (a0 a1 : Value) (s : Store) : bodyT Try.prog Try.f13 [a0, a1] s K = p13 K a0 a1 s := by kernel_rfl
theorem d13 {K : Value → Store → Prop} {a0 a1 : Value} {s : Store} (h : p13 K a0 a1 s) : Does Try.prog 13 [a0, a1] s K := does_of_print Try.func13 (by kernel_rfl) ((e13 K a0 a1 s).symm ▸ h)
/-- undercroft/undercroftkit.SameInts -/
def p14 (K : Value → Store → Prop) (a0 a1 : Value) (s : Store) : Prop :=
vop (lenSl a0) s fun v0 s1 =>
vop (lenSl a1) s1 fun v2 s3 =>
vop (binI .neq v0 v2) s3 fun v4 s5 =>
condH v4 (
K (.bool false) s5) (
lop 1 (fun (n6 : Value → Store → Prop) x7 s8 =>
vop (lenSl a0) s8 fun v9 s10 =>
vop (binI .lss x7 v9) s10 fun v11 s12 =>
condH v11 (
vop (iaddrS 1 a0 x7) s12 fun v13 s14 =>
vop (loadV false 1 v13 s12.get) s14 fun v15 _ =>
vop (iaddrS 1 a1 x7) s14 fun v16 s17 =>
vop (loadV false 1 v16 s12.get) s17 fun v18 _ =>
vop (binI .neq v15 v18) s17 fun v19 s20 =>
condH v19 (
K (.bool false) s20) (
vop (binI .add x7 (.int .i64 1)) s20 fun v21 s22 =>
n6 v21 s22)) (
K (.bool true) s12)) (.int .i64 0) s5)
theorem e14 (K : Value → Store → Prop) (a0 a1 : Value) (s : Store) : bodyT Try.prog Try.f14 [a0, a1] s K = p14 K a0 a1 s := by kernel_rfl
theorem d14 {K : Value → Store → Prop} {a0 a1 : Value} {s : Store} (h : p14 K a0 a1 s) : Does Try.prog 14 [a0, a1] s K := does_of_print Try.func14 (by kernel_rfl) ((e14 K a0 a1 s).symm ▸ h)
/-- undercroft/undercroftlaw05.large -/
def p15 (K : Value → Store → Prop) (a0 : Value) (s : Store) : Prop :=
nop (boxN a0) s fun v0 s1 =>
vop (faddr 0 v0) s1 fun v2 s3 =>
vop (faddr 1 v2) s3 fun v4 s5 =>
vop (loadV false 1 v4 s5.get) s5 fun v6 s7 =>
vop (lenSl v6) s7 fun v8 s9 =>
vop (binI .gtr v8 (.int .i64 120)) s9 fun v10 s11 =>
gop v10 false s11 (fun K => vop (faddr 2 v0) s11 K) fun v12 s13 =>
gop v10 false s13 (fun K => vop (loadV false 1 v12 s13.get) s13 K) fun v14 s15 =>
gop v10 false s15 (fun K => vop (lenSl v14) s15 K) fun v16 s17 =>
gop v10 false s17 (fun K => vop (binI .gtr v16 (.int .i64 120)) s17 K) fun v18 s19 =>
vop (pickV v10 (.bool true) v18) s19 fun v20 s21 =>
gop v20 false s21 (fun K => vop (faddr 4 v0) s21 K) fun v22 s23 =>
gop v20 false s23 (fun K => vop (loadV false 1 v22 s23.get) s23 K) fun v24 s25 =>
gop v20 false s25 (fun K => vop (lenSl v24) s25 K) fun v26 s27 =>
gop v20 false s27 (fun K => vop (binI .gtr v26 (.int .i64 120)) s27 K) fun v28 s29 =>
vop (pickV v20 (.bool true) v28) s29 fun v30 s31 =>
K v30 s31
theorem e15 (K : Value → Store → Prop) (a0 : Value) (s : Store) : bodyT Try.prog Try.f15 [a0] s K = p15 K a0 s := by kernel_rfl
theorem d15 {K : Value → Store → Prop} {a0 : Value} {s : Store} (h : p15 K a0 s) : Does Try.prog 15 [a0] s K := does_of_print Try.func15 (by kernel_rfl) ((e15 K a0 s).symm ▸ h)
/-- undercroft/past.Same -/
def p16 (K : Value → Store → Prop) (a0 a1 : Value) (s : Store) : Prop :=
nop (boxN a0) s fun v0 s1 =>
nop (boxN a1) s1 fun v2 s3 =>
vop (loadV true 2 v0 s3.get) s3 fun v4 s5 =>
vop (loadV true 2 v2 s5.get) s5 fun v6 s7 =>
Does Try.prog 26 [v4, v6] s7 fun v8 s9 =>
gop v8 true s9 (fun K => vop (loadV true 2 v0 s9.get) s9 K) fun v10 s11 =>
gop v8 true s11 (fun K => vop (loadV true 2 v2 s11.get) s11 K) fun v12 s13 =>
gop v8 true s13 (fun K => Does Try.prog 19 [v10, v12] s13 K) fun v14 s15 =>
gop v8 true s15 (fun K => vop (lenSl v14) s15 K) fun v16 s17 =>
gop v8 true s17 (fun K => vop (binI .eql v16 (.int .i64 0)) s17 K) fun v18 s19 =>
vop (pickV v8 v18 (.bool false)) s19 fun v20 s21 =>
K v20 s21
theorem e16 (K : Value → Store → Prop) (a0 a1 : Value) (s : Store) : bodyT Try.prog Try.f16 [a0, a1] s K = p16 K a0 a1 s := by kernel_rfl
theorem d16 {K : Value → Store → Prop} {a0 a1 : Value} {s : Store} (h : p16 K a0 a1 s) : Does Try.prog 16 [a0, a1] s K := does_of_print Try.func16 (by kernel_rfl) ((e16 K a0 a1 s).symm ▸ h)
/-- undercroft/undercroftkit.Pick -/
def p18 (K : Value → Store → Prop) (a0 a1 : Value) (s : Store) : Prop :=
vop (binI .rem a0 a1) s fun v0 s1 =>
jop 1 (fun (k2 : Value → Store → Prop) =>
vop (binI .lss v0 (.int .i64 0)) s1 fun v3 s4 =>
condH v3 (
vop (binI .add v0 a1) s4 fun v5 s6 =>
k2 v5 s6) (
k2 v0 s4)) fun x7 s8 =>
K x7 s8
theorem e18 (K : Value → Store → Prop) (a0 a1 : Value) (s : Store) : bodyT Try.prog Try.f18 [a0, a1] s K = p18 K a0 a1 s := by kernel_rfl
theorem d18 {K : Value → Store → Prop} {a0 a1 : Value} {s : Store} (h : p18 K a0 a1 s) : Does Try.prog 18 [a0, a1] s K := does_of_print Try.func18 (by kernel_rfl) ((e18 K a0 a1 s).symm ▸ h)
def p19_1 (v18 : Value) (s26 : Store) (v16 : Value) (x21 : Value) (n20 : Value → Store → Prop) : Prop :=
jop 1 (fun (k27 : Value → Store → Prop) =>
vop (entryL v18 s26.get) s26 fun v28 s29 =>
vop (extractV v28 0) s29 fun v30 s31 =>
vop (extractV v28 1) s31 fun v32 s33 =>
nop (some (.cells (unrle [(1024, (.int .u8 0))]) none, ptrTo)) s33 fun v34 s35 =>
eop (storeV 1024 v34 v32 s35) fun _ s37 =>
vop (lookupH (.int .i64) (.agg (unrle [(1024, (.int .u8 0))]).toArray) v16 v30 false s37.get) s37 fun v38 s39 =>
vop (loadV true 1024 v34 s39.get) s39 fun v40 s41 =>
vop (eqA (.ints .u8 1024) true v38 v40) s41 fun v42 s43 =>
condH v42 (
nop (sliceOf 1 (buildL (List.replicate 1 (unrle [(1, (.int .i64 0))])) [(0, v30)])) s43 fun v44 s45 =>
eop (appendV 1 8 x21 v44 s45) fun v46 s47 =>
k27 v46 s47) (
k27 x21 s43)) fun x48 s49 =>
n20 x48 s49
def p19_2 (v50 : Value) (s58 : Store) (v13 : Value) (x53 : Value) (n52 : Value → Store → Prop) : Prop :=
jop 1 (fun (k59 : Value → Store → Prop) =>
vop (entryL v50 s58.get) s58 fun v60 s61 =>
vop (extractV v60 0) s61 fun v62 s63 =>
vop (lookupH (.int .i64) (.agg (unrle [(1024, (.int .u8 0))]).toArray) v13 v62 true s63.get) s63 fun v64 s65 =>
vop (extractV v64 0) s65 fun v66 s67 =>
vop (extractV v64 1) s67 fun v68 s69 =>
nop (some (.cells (unrle [(1024, (.int .u8 0))]) none, ptrTo)) s69 fun v70 s71 =>
eop (storeV 1024 v70 v66 s71) fun _ s73 =>
vop (unV .not v68) s73 fun v74 s75 =>
condH v74 (
nop (sliceOf 1 (buildL (List.replicate 1 (unrle [(1, (.int .i64 0))])) [(0, v62)])) s75 fun v76 s77 =>
eop (appendV 1 8 x53 v76 s77) fun v78 s79 =>
k59 v78 s79) (
k59 x53 s75)) fun x80 s81 =>
n52 x80 s81
def p19_3 (v13 : Value) (s17 : Store) (v16 : Value) (K : Value → Store → Prop) : Prop :=
eop (rangeH v13 s17) fun v18 s19 =>
lop 1 (fun (n20 : Value → Store → Prop) x21 s22 =>
pop (nextL v18 s22) fun v23 s24 =>
vop (extractV v23 0) s24 fun v25 s26 =>
condH v25 (
p19_1 v18 s26 v16 x21 n20) (
eop (rangeH v16 s26) fun v50 s51 =>
lop 1 (fun (n52 : Value → Store → Prop) x53 s54 =>
pop (nextL v50 s54) fun v55 s56 =>
vop (extractV v55 0) s56 fun v57 s58 =>
condH v57 (
p19_2 v50 s58 v13 x53 n52) (
Does Try.prog 27 [x53] s58 fun _ s83 =>
K x53 s83)) x21 s51)) (.slice none 0 0) s19
/-- undercroft/past.Changed -/
def p19 (K : Value → Store → Prop) (a0 a1 : Value) (s : Store) : Prop :=
nop (boxN a0) s fun v0 s1 =>
nop (boxN a1) s1 fun v2 s3 =>
vop (loadV true 2 v0 s3.get) s3 fun v4 s5 =>
vop (loadV true 2 v2 s5.get) s5 fun v6 s7 =>
Does Try.prog 26 [v4, v6] s7 fun v8 s9 =>
vop (unV .not v8) s9 fun v10 s11 =>
condH v10 (
K (.slice none 0 0) s11) (
vop (loadV true 2 v0 s11.get) s11 fun v12 _ =>
Does Try.prog 21 [v12] s11 fun v13 s14 =>
vop (loadV true 2 v2 s14.get) s14 fun v15 _ =>
kop (loadV true 2 v2 s11.get) v15 (
Does Try.prog 21 [v15] s14 fun v16 s17 =>
p19_3 v13 s17 v16 K))
theorem e19 (K : Value → Store → Prop) (a0 a1 : Value) (s : Store) : bodyT Try.prog Try.f19 [a0, a1] s K = p19 K a0 a1 s := by kernel_rfl
theorem d19 {K : Value → Store → Prop} {a0 a1 : Value} {s : Store} (h : p19 K a0 a1 s) : DoesD Try.prog 19 [a0, a1] s K := doesD_of_print Try.func19 (by kernel_rfl) ((e19 K a0 a1 s).symm ▸ h)
/-- undercroft/past.may -/
def p20 (K : Value → Store → Prop) (a0 a1 : Value) (s : Store) : Prop :=
nop (boxN a0) s fun v0 s1 =>
vop (loadV true 2 v0 s1.get) s1 fun v2 s3 =>
Does Try.prog 11 [v2] s3 fun v4 s5 =>
vop (binI .eql v4 (.int .i64 0)) s5 fun v6 s7 =>
gop v6 true s7 (fun K => K a1 s7) fun v8 s9 =>
gop v6 true s9 (fun K => K (.func (.func 28) #[] #[v0]) s9) fun v10 s11 =>
gop v6 true s11 (fun K => Does Try.prog 29 [v8, v10] s11 K) fun v12 s13 =>
gop v6 true s13 (fun K => vop (unV .not v12) s13 K) fun v14 s15 =>
vop (pickV v6 v14 (.bool false)) s15 fun v16 s17 =>
K v16 s17
theorem e20 (K : Value → Store → Prop) (a0 a1 : Value) (s : Store) : bodyT Try.prog Try.f20 [a0, a1] s K = p20 K a0 a1 s := by kernel_rfl
theorem d20 {K : Value → Store → Prop} {a0 a1 : Value} {s : Store} (h : p20 K a0 a1 s) : Does Try.prog 20 [a0, a1] s K := does_of_print Try.func20 (by kernel_rfl) ((e20 K a0 a1 s).symm ▸ h)
/-- undercroft/past.held -/
def p21 (K : Value → Store → Prop) (a0 : Value) (s : Store) : Prop :=
nop (boxN a0) s fun v0 s1 =>
nop (some (.map [] 0, fun i => .map (some i))) s1 fun v2 s3 =>
vop (faddr 1 v0) s3 fun v4 s5 =>
vop (loadV false 1 v4 s5.get) s5 fun v6 s7 =>
vop (lenSl v6) s7 fun v8 s9 =>
lop 1 (fun (n10 : Value → Store → Prop) x11 s12 =>
vop (binI .lss x11 v8) s12 fun v13 s14 =>
condH v13 (
vop (iaddrS 1025 v6 x11) s14 fun v15 s16 =>
vop (loadV true 1025 v15 s16.get) s16 fun v17 s18 =>
nop (some (.cells (unrle [(1, (.int .i64 0)), (1024, (.int .u8 0))]) none, ptrTo)) s18 fun v19 s20 =>
eop (storeV 1025 v19 v17 s20) fun _ s22 =>
vop (faddr 0 v19) s22 fun v23 s24 =>
vop (loadV false 1 v23 s24.get) s24 fun v25 s26 =>
vop (faddr 1 v19) s26 fun v27 s28 =>
vop (loadV true 1024 v27 s28.get) s28 fun v29 s30 =>
eop (updH (.int .i64) v2 v25 v29 s30) fun _ s32 =>
vop (binI .add x11 (.int .i64 1)) s32 fun v33 s34 =>
n10 v33 s34) (
K v2 s14)) (.int .i64 0) s9
theorem e21 (K : Value → Store → Prop) (a0 : Value) (s : Store) : bodyT Try.prog Try.f21 [a0] s K = p21 K a0 s := by kernel_rfl
theorem d21 {K : Value → Store → Prop} {a0 : Value} {s : Store} (h : p21 K a0 s) : Does Try.prog 21 [a0] s K := does_of_print Try.func21 (by kernel_rfl) ((e21 K a0 s).symm ▸ h)
/-- undercroft/past.After$1 -/
def p22 (K : Value → Store → Prop) (a0 a1 : Value) (s : Store) : Prop :=
nop (boxN a0) s fun v0 s1 =>
vop (faddr 0 v0) s1 fun v2 s3 =>
vop (loadV false 1 v2 s3.get) s3 fun v4 s5 =>
vop (binI .eql v4 (.int .u8 1)) s5 fun v6 s7 =>
condH v6 (
vop (loadV false 1 a1 s7.get) s7 fun v8 s9 =>
vop (faddr 1 v0) s9 fun v10 s11 =>
vop (loadV false 1 v10 s11.get) s11 fun v12 s13 =>
vop (faddr 2 v0) s13 fun v14 s15 =>
vop (loadV true 1024 v14 s15.get) s15 fun v16 s17 =>
eop (updH (.int .i64) v8 v12 v16 s17) fun _ s19 =>
K (.tuple #[]) s19) (
K (.tuple #[]) s7)
theorem e22 (K : Value → Store → Prop) (a0 a1 : Value) (s : Store) : bodyT Try.prog Try.f22 [a0, a1] s K = p22 K a0 a1 s := by kernel_rfl
theorem d22 {K : Value → Store → Prop} {a0 a1 : Value} {s : Store} (h : p22 K a0 a1 s) : Does Try.prog 22 [a0, a1] s K := does_of_print Try.func22 (by kernel_rfl) ((e22 K a0 a1 s).symm ▸ h)
/-- undercroft/past.split -/
def p23 (K : Value → Store → Prop) (a0 a1 : Value) (s : Store) : Prop :=
lop 1 (fun (n0 : Value → Store → Prop) x1 s2 =>
vop (binI .gtr x1 (.int .i64 0)) s2 fun v3 s4 =>
condH v3 (
vop (binI .sub x1 (.int .i64 1)) s4 fun v5 s6 =>
vop (iaddrS 1026 a0 v5) s6 fun v7 s8 =>
vop (faddr 0 v7) s8 fun v9 s10 =>
vop (loadV false 1 v9 s10.get) s10 fun v11 s12 =>
vop (binI .eql v11 (.int .u8 2)) s12 fun v13 s14 =>
condH v13 (
K x1 s14) (
vop (binI .sub x1 (.int .i64 1)) s14 fun v15 s16 =>
n0 v15 s16)) (
K (.int .i64 0) s4)) a1 s
theorem e23 (K : Value → Store → Prop) (a0 a1 : Value) (s : Store) : bodyT Try.prog Try.f23 [a0, a1] s K = p23 K a0 a1 s := by kernel_rfl
theorem d23 {K : Value → Store → Prop} {a0 a1 : Value} {s : Store} (h : p23 K a0 a1 s) : Does Try.prog 23 [a0, a1] s K := does_of_print Try.func23 (by kernel_rfl) ((e23 K a0 a1 s).symm ▸ h)
/-- undercroft/past.image -/
def p24 (K : Value → Store → Prop) (a0 a1 : Value) (s : Store) : Prop :=
nop (some (.cells (unrle [(1, (.int .i64 0)), (1, (.slice none 0 0))]) none, ptrTo)) s fun v0 s1 =>
vop (aggOf (buildL [(unrle [(1, (.int .i64 0))]), (unrle [(1, (.slice none 0 0))])] [(0, a0)])) s1 fun v2 s3 =>
nop (some (.cells (unrle [(1, (.int .i64 0)), (1, (.slice none 0 0))]) none, ptrTo)) s3 fun v4 s5 =>
eop (storeV 2 v4 v2 s5) fun _ s7 =>
eop (rangeH a1 s7) fun v8 s9 =>
lop 0 (fun (n10 : Store → Prop) s11 =>
pop (nextL v8 s11) fun v12 s13 =>
vop (extractV v12 0) s13 fun v14 s15 =>
condH v14 (
jop 0 (fun (k16 : Store → Prop) =>
vop (entryL v8 s15.get) s15 fun v17 s18 =>
vop (extractV v17 0) s18 fun v19 s20 =>
vop (extractV v17 1) s20 fun v21 s22 =>
nop (some (.cells (unrle [(1024, (.int .u8 0))]) none, ptrTo)) s22 fun v23 s24 =>
eop (storeV 1024 v23 v21 s24) fun _ s26 =>
vop (loadV true 1024 v23 s26.get) s26 fun v27 s28 =>
vop (aggOf (buildL (List.replicate 1024 (unrle [(1, (.int .u8 0))])) [])) s28 fun v29 s30 =>
vop (eqA (.ints .u8 1024) true v27 v29) s30 fun v31 s32 =>
condH v31 (
vop (faddr 1 v4) s32 fun v33 s34 =>
vop (loadV false 1 v33 s34.get) s34 fun v35 s36 =>
vop (loadV true 1024 v23 s36.get) s36 fun v37 s38 =>
vop (aggOf (buildL [(unrle [(1, (.int .i64 0))]), (unrle [(1024, (.int .u8 0))])] [(0, v19), (1, v37)])) s38 fun v39 s40 =>
nop (sliceOf 1 (buildL (List.replicate 1 (unrle [(1, (.int .i64 0)), (1024, (.int .u8 0))])) [(0, v39)])) s40 fun v41 s42 =>
eop (appendV 1025 1032 v35 v41 s42) fun v43 s44 =>
vop (faddr 1 v4) s44 fun v45 s46 =>
eop (storeV 1 v45 v43 s46) fun _ s48 =>
k16 s48) (
k16 s32)) fun s49 =>
n10 s49) (
vop (faddr 1 v4) s15 fun v50 s51 =>
vop (loadV false 1 v50 s51.get) s51 fun v52 s53 =>
Does Try.prog 30 [v52, (.func (.func 31) #[] #[])] s53 fun _ s55 =>
vop (loadV true 2 v4 s55.get) s55 fun v56 s57 =>
eop (storeV 2 v0 v56 s57) fun _ s59 =>
vop (loadV true 2 v0 s59.get) s59 fun v60 _ =>
K v60 s59)) s9
theorem e24 (K : Value → Store → Prop) (a0 a1 : Value) (s : Store) : bodyT Try.prog Try.f24 [a0, a1] s K = p24 K a0 a1 s := by kernel_rfl
theorem d24 {K : Value → Store → Prop} {a0 a1 : Value} {s : Store} (h : p24 K a0 a1 s) : DoesD Try.prog 24 [a0, a1] s K := doesD_of_print Try.func24 (by kernel_rfl) ((e24 K a0 a1 s).symm ▸ h)
/-- undercroft/past.Block$1 -/
def p25 (K : Value → Store → Prop) (a0 a1 a2 a3 : Value) (s : Store) : Prop :=
nop (boxN a0) s fun v0 s1 =>
vop (loadV false 1 a1 s1.get) s1 fun v2 s3 =>
vop (loadV true 1024 v0 s3.get) s3 fun v4 s5 =>
vop (aggOf (buildL [(unrle [(1, (.int .i64 0))]), (unrle [(1024, (.int .u8 0))])] [(0, v2), (1, v4)])) s5 fun v6 s7 =>
nop (some (.cells (unrle [(1, (.int .i64 0)), (1024, (.int .u8 0))]) none, ptrTo)) s7 fun v8 s9 =>
eop (storeV 1025 v8 v6 s9) fun _ s11 =>
vop (loadV false 1 a2 s11.get) s11 fun v12 s13 =>
vop (loadV true 1025 v8 s13.get) s13 fun v14 s15 =>
vop (lookupE (.fields [(0, 1, (.one (.int .i64))), (1, 1024, (.ints .u8 1024))]) (.int .i64 0) v12 v14 true s15.get) s15 fun v16 s17 =>
vop (extractV v16 0) s17 fun _ s19 =>
vop (extractV v16 1) s19 fun v20 s21 =>
vop (unV .not v20) s21 fun v22 s23 =>
condH v22 (
vop (loadV false 1 a2 s23.get) s23 fun v24 s25 =>
vop (loadV true 1025 v8 s25.get) s25 fun v26 s27 =>
vop (loadV false 1 a3 s27.get) s27 fun v28 s29 =>
vop (lenSl v28) s29 fun v30 s31 =>
eop (updE (.fields [(0, 1, (.one (.int .i64))), (1, 1024, (.ints .u8 1024))]) v24 v26 v30 s31) fun _ s33 =>
vop (loadV false 1 a3 s33.get) s33 fun v34 s35 =>
vop (loadV true 1024 v0 s35.get) s35 fun v36 s37 =>
nop (sliceOf 1 (buildL (List.replicate 1 (unrle [(1024, (.int .u8 0))])) [(0, v36)])) s37 fun v38 s39 =>
eop (appendV 1024 1024 v34 v38 s39) fun v40 s41 =>
eop (storeV 1 a3 v40 s41) fun _ s43 =>
K (.tuple #[]) s43) (
K (.tuple #[]) s23)
theorem e25 (K : Value → Store → Prop) (a0 a1 a2 a3 : Value) (s : Store) : bodyT Try.prog Try.f25 [a0, a1, a2, a3] s K = p25 K a0 a1 a2 a3 s := by kernel_rfl
theorem d25 {K : Value → Store → Prop} {a0 a1 a2 a3 : Value} {s : Store} (h : p25 K a0 a1 a2 a3 s) : Does Try.prog 25 [a0, a1, a2, a3] s K := does_of_print Try.func25 (by kernel_rfl) ((e25 K a0 a1 a2 a3 s).symm ▸ h)
/-- undercroft/past.both -/
def p26 (K : Value → Store → Prop) (a0 a1 : Value) (s : Store) : Prop :=
nop (boxN a0) s fun v0 s1 =>
nop (boxN a1) s1 fun v2 s3 =>
vop (loadV true 2 v0 s3.get) s3 fun v4 s5 =>
Does Try.prog 11 [v4] s5 fun v6 s7 =>
vop (binI .eql v6 (.int .i64 0)) s7 fun v8 s9 =>
gop v8 true s9 (fun K => vop (loadV true 2 v2 s9.get) s9 K) fun v10 s11 =>
gop v8 true s11 (fun K => Does Try.prog 11 [v10] s11 K) fun v12 s13 =>
gop v8 true s13 (fun K => vop (binI .eql v12 (.int .i64 0)) s13 K) fun v14 s15 =>
vop (pickV v8 v14 (.bool false)) s15 fun v16 s17 =>
gop v16 true s17 (fun K => vop (faddr 0 v0) s17 K) fun v18 s19 =>
gop v16 true s19 (fun K => vop (loadV false 1 v18 s19.get) s19 K) fun v20 s21 =>
gop v16 true s21 (fun K => vop (faddr 0 v2) s21 K) fun v22 s23 =>
gop v16 true s23 (fun K => vop (loadV false 1 v22 s23.get) s23 K) fun v24 s25 =>
gop v16 true s25 (fun K => vop (binI .eql v20 v24) s25 K) fun v26 s27 =>
vop (pickV v16 v26 (.bool false)) s27 fun v28 s29 =>
K v28 s29
theorem e26 (K : Value → Store → Prop) (a0 a1 : Value) (s : Store) : bodyT Try.prog Try.f26 [a0, a1] s K = p26 K a0 a1 s := by kernel_rfl
theorem d26 {K : Value → Store → Prop} {a0 a1 : Value} {s : Store} (h : p26 K a0 a1 s) : Does Try.prog 26 [a0, a1] s K := does_of_print Try.func26 (by kernel_rfl) ((e26 K a0 a1 s).symm ▸ h)
/-- undercroft/past.may$1 -/
def p28 (K : Value → Store → Prop) (a0 a1 : Value) (s : Store) : Prop :=
nop (boxN a0) s fun v0 s1 =>
vop (faddr 0 v0) s1 fun v2 s3 =>
vop (loadV false 1 v2 s3.get) s3 fun v4 s5 =>
vop (binI .neq v4 (.int .u8 2)) s5 fun v6 s7 =>
gop v6 true s7 (fun K => vop (faddr 0 v0) s7 K) fun v8 s9 =>
gop v6 true s9 (fun K => vop (loadV false 1 v8 s9.get) s9 K) fun v10 s11 =>
gop v6 true s11 (fun K => vop (binI .neq v10 (.int .u8 1)) s11 K) fun v12 s13 =>
gop v6 true s13 (fun K => K v12 s13) fun v14 s15 =>
gop v14 false s15 (fun K => vop (faddr 1 v0) s15 K) fun v16 s17 =>
gop v14 false s17 (fun K => vop (loadV false 1 v16 s17.get) s17 K) fun v18 s19 =>
gop v14 false s19 (fun K => vop (binI .lss v18 (.int .i64 0)) s19 K) fun v20 s21 =>
gop v6 true s21 (fun K => vop (pickV v14 (.bool true) v20) s21 K) fun v22 s23 =>
gop v6 true s23 (fun K => K v22 s23) fun v24 s25 =>
gop v24 false s25 (fun K => vop (faddr 1 v0) s25 K) fun v26 s27 =>
gop v24 false s27 (fun K => vop (loadV false 1 v26 s27.get) s27 K) fun v28 s29 =>
gop v24 false s29 (fun K => vop (faddr 0 a1) s29 K) fun v30 s31 =>
gop v24 false s31 (fun K => vop (loadV false 1 v30 s31.get) s31 K) fun v32 s33 =>
gop v24 false s33 (fun K => vop (binI .geq v28 v32) s33 K) fun v34 s35 =>
gop v6 true s35 (fun K => vop (pickV v24 (.bool true) v34) s35 K) fun v36 s37 =>
vop (pickV v6 v36 (.bool false)) s37 fun v38 s39 =>
K v38 s39
theorem e28 (K : Value → Store → Prop) (a0 a1 : Value) (s : Store) : bodyT Try.prog Try.f28 [a0, a1] s K = p28 K a0 a1 s := by kernel_rfl
theorem d28 {K : Value → Store → Prop} {a0 a1 : Value} {s : Store} (h : p28 K a0 a1 s) : Does Try.prog 28 [a0, a1] s K := does_of_print Try.func28 (by kernel_rfl) ((e28 K a0 a1 s).symm ▸ h)
/-- slices.ContainsFunc[[]undercroft/api.Op,undercroft/api.Op] -/
def p29 (K : Value → Store → Prop) (a0 a1 : Value) (s : Store) : Prop :=
Does Try.prog 34 [a0, a1] s fun v0 s1 =>
vop (binI .geq v0 (.int .i64 0)) s1 fun v2 s3 =>
K v2 s3
theorem e29 (K : Value → Store → Prop) (a0 a1 : Value) (s : Store) : bodyT Try.prog Try.f29 [a0, a1] s K = p29 K a0 a1 s := by kernel_rfl
theorem d29 {K : Value → Store → Prop} {a0 a1 : Value} {s : Store} (h : p29 K a0 a1 s) : Does Try.prog 29 [a0, a1] s K := does_of_print Try.func29 (by kernel_rfl) ((e29 K a0 a1 s).symm ▸ h)
/-- slices.IndexFunc[[]undercroft/api.Op,undercroft/api.Op] -/
def p34 (K : Value → Store → Prop) (a0 a1 : Value) (s : Store) : Prop :=
vop (lenSl a0) s fun v0 s1 =>
lop 1 (fun (n2 : Value → Store → Prop) x3 s4 =>
vop (binI .lss x3 v0) s4 fun v5 s6 =>
condH v5 (
vop (iaddrS 1026 a0 x3) s6 fun v7 s8 =>
vop (loadV true 1026 v7 s8.get) s8 fun v9 s10 =>
cop Try.prog (callD Try.prog a1 [v9]) s10 fun v11 s12 =>
condH v11 (
K x3 s12) (
vop (binI .add x3 (.int .i64 1)) s12 fun v13 s14 =>
n2 v13 s14)) (
K (.int .i64 (-1)) s6)) (.int .i64 0) s1
theorem e34 (K : Value → Store → Prop) (a0 a1 : Value) (s : Store) : bodyT Try.prog Try.f34 [a0, a1] s K = p34 K a0 a1 s := by kernel_rfl
theorem d34 {K : Value → Store → Prop} {a0 a1 : Value} {s : Store} (h : p34 K a0 a1 s) : Does Try.prog 34 [a0, a1] s K := does_of_print Try.func34 (by kernel_rfl) ((e34 K a0 a1 s).symm ▸ h)
end Go.Proofs.Ytncdcjebanhcpaa
