/- What functions do, printed out of the code. -/
import Derived.Test.YtchfpepbdnjhmaaAm34
import Derived.Test.YtchfpepbdnjhmaaProg
import Derived.KernelRfl
set_option maxRecDepth 100000
set_option linter.all false
namespace Go.Proofs.Ytchfpepbdnjhmaa
open Go.Am
def p3_1 (v244 : Value) (v246 : Value) (s247 : Store) (K : Value → Store → Prop) (v236 : Value) (v238 : Value) (v2 : Value) : Prop :=
vop (pickV v244 v246 (.bool false)) s247 fun v248 s249 =>
gop v248 true s249 (fun K => K v236 s249) fun v250 s251 =>
gop v248 true s251 (fun K => vop (binI .eql v250 (.int .i64 0)) s251 K) fun v252 s253 =>
vop (pickV v248 v252 (.bool false)) s253 fun v254 s255 =>
gop v254 true s255 (fun K => vop (loadV true 1024 v238 s255.get) s255 K) fun v256 s257 =>
gop v254 true s257 (fun K => vop (aggOf (buildL (List.replicate 1024 (unrle [(1, (.int .u8 0))])) [])) s257 K) fun v258 s259 =>
gop v254 true s259 (fun K => vop (eqA (.ints .u8 1024) false v256 v258) s259 K) fun v260 s261 =>
vop (pickV v254 v260 (.bool false)) s261 fun v262 s263 =>
gop v262 true s263 (fun K => K v2 s263) fun v264 s265 =>
gop v262 true s265 (fun K => vop (aggOf (buildL [(unrle [(1, (.int .i64 0))]), (unrle [(1, (.int .i64 0))]), (unrle [(1, (.int .i64 0))])] [(0, (.int .i64 300)), (1, (.int .i64 32)), (2, (.int .i64 60))])) s265 K) fun v266 s267 =>
gop v262 true s267 (fun K => Does Try.prog 8 [v264, v266] s267 K) fun v268 s269 =>
gop v262 true s269 (fun K => vop (binI .eql v268 (.int .i64 0)) s269 K) fun v270 s271 =>
vop (pickV v262 v270 (.bool false)) s271 fun v272 s273 =>
K v272 s273
def p3_2 (v220 : Value) (s221 : Store) (K : Value → Store → Prop) (v2 : Value) (v58 : Value) (v214 : Value) : Prop :=
vop (binI .eql v220 (.int .i64 3)) s221 fun v222 s223 =>
gop v222 true s223 (fun K => K v2 s223) fun v224 s225 =>
gop v222 true s225 (fun K => Does Try.prog 12 [v224, (.slice none 0 0)] s225 K) fun v226 s227 =>
gop v222 true s227 (fun K => vop (binI .eql v226 (.int .i64 0)) s227 K) fun v228 s229 =>
vop (pickV v222 v228 (.bool false)) s229 fun v230 s231 =>
Does Try.prog 10 [v2, (.int .i64 0)] s231 fun v232 s233 =>
vop (extractV v232 0) s233 fun v234 s235 =>
vop (extractV v232 1) s235 fun v236 s237 =>
nop (some (.cells (unrle [(1024, (.int .u8 0))]) none, ptrTo)) s237 fun v238 s239 =>
eop (storeV 1024 v238 v234 s239) fun _ s241 =>
gop v58 true s241 (fun K => K v214 s241) fun v242 s243 =>
vop (pickV v58 v242 (.bool false)) s243 fun v244 s245 =>
gop v244 true s245 (fun K => K v230 s245) fun v246 s247 =>
p3_1 v244 v246 s247 K v236 v238 v2
def p3_3 (v190 : Value) (s195 : Store) (K : Value → Store → Prop) (v194 : Value) (v86 : Value) (v2 : Value) (v8 : Value) (v58 : Value) : Prop :=
gop v190 true s195 (fun K => vop (binI .eql v194 (.int .u8 46)) s195 K) fun v196 s197 =>
vop (pickV v190 v196 (.bool false)) s197 fun v198 s199 =>
gop v198 true s199 (fun K => vop (iaddrA 1024 1 v86 (.int .i64 19)) s199 K) fun v200 s201 =>
gop v198 true s201 (fun K => vop (loadV false 1 v200 s201.get) s201 K) fun v202 s203 =>
gop v198 true s203 (fun K => vop (binI .eql v202 (.int .u8 46)) s203 K) fun v204 s205 =>
vop (pickV v198 v204 (.bool false)) s205 fun v206 s207 =>
gop v206 true s207 (fun K => vop (iaddrA 1024 1 v86 (.int .i64 20)) s207 K) fun v208 s209 =>
gop v206 true s209 (fun K => vop (loadV false 1 v208 s209.get) s209 K) fun v210 s211 =>
gop v206 true s211 (fun K => vop (binI .eql v210 (.int .u8 0)) s211 K) fun v212 s213 =>
vop (pickV v206 v212 (.bool false)) s213 fun v214 s215 =>
Does Try.prog 11 [v2, (.int .i64 9)] s215 fun _ s217 =>
vop (loadV true 3 v8 s217.get) s217 fun v218 s219 =>
Does Try.prog 8 [v2, v218] s219 fun v220 s221 =>
p3_2 v220 s221 K v2 v58 v214
def p3_4 (v166 : Value) (s169 : Store) (K : Value → Store → Prop) (v168 : Value) (v86 : Value) (v2 : Value) (v8 : Value) (v58 : Value) : Prop :=
gop v166 true s169 (fun K => vop (loadV false 1 v168 s169.get) s169 K) fun v170 s171 =>
gop v166 true s171 (fun K => vop (binI .eql v170 (.int .u8 1)) s171 K) fun v172 s173 =>
vop (pickV v166 v172 (.bool false)) s173 fun v174 s175 =>
gop v174 true s175 (fun K => vop (iaddrA 1024 1 v86 (.int .i64 2)) s175 K) fun v176 s177 =>
gop v174 true s177 (fun K => vop (loadV false 1 v176 s177.get) s177 K) fun v178 s179 =>
gop v174 true s179 (fun K => vop (binI .eql v178 (.int .u8 46)) s179 K) fun v180 s181 =>
vop (pickV v174 v180 (.bool false)) s181 fun v182 s183 =>
gop v182 true s183 (fun K => vop (iaddrA 1024 1 v86 (.int .i64 16)) s183 K) fun v184 s185 =>
gop v182 true s185 (fun K => vop (loadV false 1 v184 s185.get) s185 K) fun v186 s187 =>
gop v182 true s187 (fun K => vop (binI .eql v186 (.int .u8 1)) s187 K) fun v188 s189 =>
vop (pickV v182 v188 (.bool false)) s189 fun v190 s191 =>
gop v190 true s191 (fun K => vop (iaddrA 1024 1 v86 (.int .i64 18)) s191 K) fun v192 s193 =>
gop v190 true s193 (fun K => vop (loadV false 1 v192 s193.get) s193 K) fun v194 s195 =>
p3_3 v190 s195 K v194 v86 v2 v8 v58
def p3_5 (v142 : Value) (s143 : Store) (K : Value → Store → Prop) (v76 : Value) (v86 : Value) (v2 : Value) (v8 : Value) (v58 : Value) : Prop :=
gop v142 true s143 (fun K => vop (iaddrA 1024 1 v76 (.int .i64 3)) s143 K) fun v144 s145 =>
gop v142 true s145 (fun K => vop (loadV false 1 v144 s145.get) s145 K) fun v146 s147 =>
gop v142 true s147 (fun K => vop (binI .eql v146 (.int .u8 255)) s147 K) fun v148 s149 =>
vop (pickV v142 v148 (.bool false)) s149 fun v150 s151 =>
gop v150 true s151 (fun K => vop (iaddrA 1024 1 v76 (.int .i64 4)) s151 K) fun v152 s153 =>
gop v150 true s153 (fun K => vop (loadV false 1 v152 s153.get) s153 K) fun v154 s155 =>
gop v150 true s155 (fun K => vop (binI .eql v154 (.int .u8 127)) s155 K) fun v156 s157 =>
vop (pickV v150 v156 (.bool false)) s157 fun v158 s159 =>
gop v158 true s159 (fun K => vop (iaddrA 1024 1 v76 (.int .i64 5)) s159 K) fun v160 s161 =>
gop v158 true s161 (fun K => vop (loadV false 1 v160 s161.get) s161 K) fun v162 s163 =>
gop v158 true s163 (fun K => vop (binI .eql v162 (.int .u8 0)) s163 K) fun v164 s165 =>
vop (pickV v158 v164 (.bool false)) s165 fun v166 s167 =>
gop v166 true s167 (fun K => vop (iaddrA 1024 1 v86 (.int .i64 0)) s167 K) fun v168 s169 =>
p3_4 v166 s169 K v168 v86 v2 v8 v58
def p3_6 (v110 : Value) (v116 : Value) (s117 : Store) (K : Value → Store → Prop) (v66 : Value) (v76 : Value) (v86 : Value) (v2 : Value) (v8 : Value) (v58 : Value) : Prop :=
vop (pickV v110 v116 (.bool false)) s117 fun v118 s119 =>
gop v118 true s119 (fun K => vop (iaddrA 1024 1 v66 (.int .i64 68)) s119 K) fun v120 s121 =>
gop v118 true s121 (fun K => vop (loadV false 1 v120 s121.get) s121 K) fun v122 s123 =>
gop v118 true s123 (fun K => vop (binI .eql v122 (.int .u8 32)) s123 K) fun v124 s125 =>
vop (pickV v118 v124 (.bool false)) s125 fun v126 s127 =>
gop v126 true s127 (fun K => vop (iaddrA 1024 1 v66 (.int .i64 72)) s127 K) fun v128 s129 =>
gop v126 true s129 (fun K => vop (loadV false 1 v128 s129.get) s129 K) fun v130 s131 =>
gop v126 true s131 (fun K => vop (binI .eql v130 (.int .u8 1)) s131 K) fun v132 s133 =>
vop (pickV v126 v132 (.bool false)) s133 fun v134 s135 =>
gop v134 true s135 (fun K => vop (iaddrA 1024 1 v66 (.int .i64 76)) s135 K) fun v136 s137 =>
gop v134 true s137 (fun K => vop (loadV false 1 v136 s137.get) s137 K) fun v138 s139 =>
gop v134 true s139 (fun K => vop (binI .eql v138 (.int .u8 38)) s139 K) fun v140 s141 =>
vop (pickV v134 v140 (.bool false)) s141 fun v142 s143 =>
p3_5 v142 s143 K v76 v86 v2 v8 v58
def p3_7 (v90 : Value) (s91 : Store) (K : Value → Store → Prop) (v74 : Value) (v84 : Value) (v66 : Value) (v76 : Value) (v86 : Value) (v2 : Value) (v8 : Value) (v58 : Value) : Prop :=
gop v90 true s91 (fun K => K v74 s91) fun v92 s93 =>
gop v90 true s93 (fun K => vop (binI .eql v92 (.int .i64 0)) s93 K) fun v94 s95 =>
vop (pickV v90 v94 (.bool false)) s95 fun v96 s97 =>
gop v96 true s97 (fun K => K v84 s97) fun v98 s99 =>
gop v96 true s99 (fun K => vop (binI .eql v98 (.int .i64 0)) s99 K) fun v100 s101 =>
vop (pickV v96 v100 (.bool false)) s101 fun v102 s103 =>
gop v102 true s103 (fun K => vop (iaddrA 1024 1 v66 (.int .i64 64)) s103 K) fun v104 s105 =>
gop v102 true s105 (fun K => vop (loadV false 1 v104 s105.get) s105 K) fun v106 s107 =>
gop v102 true s107 (fun K => vop (binI .eql v106 (.int .u8 2)) s107 K) fun v108 s109 =>
vop (pickV v102 v108 (.bool false)) s109 fun v110 s111 =>
gop v110 true s111 (fun K => vop (iaddrA 1024 1 v66 (.int .i64 66)) s111 K) fun v112 s113 =>
gop v110 true s113 (fun K => vop (loadV false 1 v112 s113.get) s113 K) fun v114 s115 =>
gop v110 true s115 (fun K => vop (binI .eql v114 (.int .u8 2)) s115 K) fun v116 s117 =>
p3_6 v110 v116 s117 K v66 v76 v86 v2 v8 v58
def p3_8 (s65 : Store) (v62 : Value) (v2 : Value) (v64 : Value) (K : Value → Store → Prop) (v8 : Value) (v58 : Value) : Prop :=
nop (some (.cells (unrle [(1024, (.int .u8 0))]) none, ptrTo)) s65 fun v66 s67 =>
eop (storeV 1024 v66 v62 s67) fun _ s69 =>
Does Try.prog 10 [v2, (.int .i64 37)] s69 fun v70 s71 =>
vop (extractV v70 0) s71 fun v72 s73 =>
vop (extractV v70 1) s73 fun v74 s75 =>
nop (some (.cells (unrle [(1024, (.int .u8 0))]) none, ptrTo)) s75 fun v76 s77 =>
eop (storeV 1024 v76 v72 s77) fun _ s79 =>
Does Try.prog 10 [v2, (.int .i64 38)] s79 fun v80 s81 =>
vop (extractV v80 0) s81 fun v82 s83 =>
vop (extractV v80 1) s83 fun v84 s85 =>
nop (some (.cells (unrle [(1024, (.int .u8 0))]) none, ptrTo)) s85 fun v86 s87 =>
eop (storeV 1024 v86 v82 s87) fun _ s89 =>
vop (binI .eql v64 (.int .i64 0)) s89 fun v90 s91 =>
p3_7 v90 s91 K v74 v84 v66 v76 v86 v2 v8 v58
def p3_9 (v32 : Value) (v38 : Value) (s39 : Store) (K : Value → Store → Prop) (v2 : Value) (v8 : Value) : Prop :=
vop (pickV v32 v38 (.bool false)) s39 fun v40 s41 =>
gop v40 true s41 (fun K => K v2 s41) fun v42 s43 =>
gop v40 true s43 (fun K => vop (loadV true 3 v8 s43.get) s43 K) fun v44 s45 =>
gop v40 true s45 (fun K => Does Try.prog 8 [v42, v44] s45 K) fun v46 s47 =>
gop v40 true s47 (fun K => vop (binI .eql v46 (.int .i64 0)) s47 K) fun v48 s49 =>
vop (pickV v40 v48 (.bool false)) s49 fun v50 s51 =>
gop v50 true s51 (fun K => K v2 s51) fun v52 s53 =>
gop v50 true s53 (fun K => Does Try.prog 9 [v52] s53 K) fun v54 s55 =>
gop v50 true s55 (fun K => vop (binI .eql v54 (.int .i64 12)) s55 K) fun v56 s57 =>
vop (pickV v50 v56 (.bool false)) s57 fun v58 s59 =>
Does Try.prog 10 [v2, (.int .i64 33)] s59 fun v60 s61 =>
vop (extractV v60 0) s61 fun v62 s63 =>
vop (extractV v60 1) s63 fun v64 s65 =>
p3_8 s65 v62 v2 v64 K v8 v58
def p3_10 (v12 : Value) (v16 : Value) (s17 : Store) (K : Value → Store → Prop) (v2 : Value) (v8 : Value) : Prop :=
vop (pickV v12 (.bool true) v16) s17 fun v18 s19 =>
vop (pickV v18 (.bool true) (.bool false)) s19 fun v20 s21 =>
gop v20 false s21 (fun K => Does Try.prog 7 [] s21 K) fun v22 s23 =>
gop v20 false s23 (fun K => vop (unV .not v22) s23 K) fun v24 s25 =>
vop (pickV v20 (.bool true) v24) s25 fun v26 s27 =>
condH v26 (
K (.bool false) s27) (
vop (aggOf (buildL [(unrle [(1, (.int .i64 0))]), (unrle [(1, (.int .i64 0))]), (unrle [(1, (.int .i64 0))])] [(0, (.int .i64 401)), (1, (.int .i64 32)), (2, (.int .i64 60))])) s27 fun v28 s29 =>
Does Try.prog 8 [v2, v28] s29 fun v30 s31 =>
vop (binI .eql v30 (.int .i64 2)) s31 fun v32 s33 =>
gop v32 true s33 (fun K => K v2 s33) fun v34 s35 =>
gop v32 true s35 (fun K => Does Try.prog 9 [v34] s35 K) fun v36 s37 =>
gop v32 true s37 (fun K => vop (binI .eql v36 (.int .i64 0)) s37 K) fun v38 s39 =>
p3_9 v32 v38 s39 K v2 v8)
/-- undercroft/undercroftlaw23.MkfsNames -/
def p3 (K : Value → Store → Prop) (s : Store) : Prop :=
Does Try.prog 6 [(.int .i64 400)] s fun v0 s1 =>
vop (extractV v0 0) s1 fun v2 s3 =>
vop (extractV v0 1) s3 fun v4 s5 =>
vop (aggOf (buildL [(unrle [(1, (.int .i64 0))]), (unrle [(1, (.int .i64 0))]), (unrle [(1, (.int .i64 0))])] [(0, (.int .i64 400)), (1, (.int .i64 32)), (2, (.int .i64 60))])) s5 fun v6 s7 =>
nop (some (.cells (unrle [(3, (.int .i64 0))]) none, ptrTo)) s7 fun v8 s9 =>
eop (storeV 3 v8 v6 s9) fun _ s11 =>
vop (binI .neq v4 (.int .i64 0)) s11 fun v12 s13 =>
gop v12 false s13 (fun K => K v2 s13) fun v14 s15 =>
gop v12 false s15 (fun K => vop (eqPn false v14 (.pointer none)) s15 K) fun v16 s17 =>
p3_10 v12 v16 s17 K v2 v8
theorem e3 (K : Value → Store → Prop) (s : Store) : bodyT Try.prog Try.f3 [] s K = p3 K s := by kernel_rfl
theorem d3 {K : Value → Store → Prop} {s : Store} (h : p3 K s) : Does Try.prog 3 [] s K := does_of_print Try.func3 (by kernel_rfl) ((e3 K s).symm ▸ h)
def p4_1 (v173 : Value) (s195 : Store) (K : Value → Store → Prop) (v177 : Value) (v194 : Value) (v165 : Value) (v127 : Value) (s183 : Store) (v137 : Value) (x113 : Value) (n112 : Value → Store → Prop) : Prop :=
gop v173 false s195 (fun K => vop (pickV v177 v194 (.bool false)) s195 K) fun v196 s197 =>
vop (pickV v173 (.bool true) v196) s197 fun v198 s199 =>
gop v198 false s199 (fun K => K v165 s199) fun v200 s201 =>
gop v198 false s201 (fun K => vop (unV .not v200) s201 K) fun v202 s203 =>
gop v198 false s203 (fun K => K v202 s203) fun v204 s205 =>
gop v204 true s205 (fun K => vop (loadV true 1024 v127 s183.get) s205 K) fun v206 _ =>
gop v204 true s205 (fun K => vop (loadV true 1024 v137 s183.get) s205 K) fun v207 _ =>
gop v204 true s205 (fun K => vop (eqA (.ints .u8 1024) true v206 v207) s205 K) fun v208 s209 =>
gop v198 false s209 (fun K => vop (pickV v204 v208 (.bool false)) s209 K) fun v210 s211 =>
vop (pickV v198 (.bool true) v210) s211 fun v212 s213 =>
condH v212 (
K (.bool false) s213) (
vop (binI .add x113 (.int .i64 1)) s213 fun v214 s215 =>
n112 v214 s215)
def p4_2 (v173 : Value) (s174 : Store) (K : Value → Store → Prop) (v165 : Value) (v0 : Value) (s166 : Store) (x113 : Value) (v127 : Value) (v137 : Value) (n112 : Value → Store → Prop) : Prop :=
gop v173 false s174 (fun K => K v165 s174) fun v175 s176 =>
gop v173 false s176 (fun K => K v175 s176) fun v177 s178 =>
gop v177 true s178 (fun K => vop (loadV true 2 v0 s166.get) s178 K) fun v179 _ =>
gop v177 true s178 (fun K => K x113 s178) fun v180 s181 =>
gop v177 true s181 (fun K => Does Try.prog 17 [v179, v180] s181 K) fun v182 s183 =>
gop v177 true s183 (fun K => vop (loadV true 1024 v127 s183.get) s183 K) fun v184 _ =>
kop (gsel v177 true (loadV true 1024 v127) s166.get) v184 (
gop v177 true s183 (fun K => vop (eqA (.ints .u8 1024) true v184 v182) s183 K) fun v185 s186 =>
gop v177 true s186 (fun K => K v185 s186) fun v187 s188 =>
gop v187 false s188 (fun K => vop (loadV true 1024 v137 s183.get) s188 K) fun v189 _ =>
gop v187 false s188 (fun K => vop (aggOf (buildL (List.replicate 1024 (unrle [(1, (.int .u8 0))])) [])) s188 K) fun v190 s191 =>
gop v187 false s191 (fun K => vop (eqA (.ints .u8 1024) true v189 v190) s191 K) fun v192 s193 =>
gop v177 true s193 (fun K => vop (pickV v187 (.bool true) v192) s193 K) fun v194 s195 =>
p4_1 v173 s195 K v177 v194 v165 v127 s183 v137 x113 n112)
def p4_3 (v145 : Value) (s148 : Store) (K : Value → Store → Prop) (v12 : Value) (v147 : Value) (x113 : Value) (v125 : Value) (v135 : Value) (v0 : Value) (v127 : Value) (v137 : Value) (n112 : Value → Store → Prop) : Prop :=
gop v145 true s148 (fun K => vop (faddr 4 v12) s148 K) fun v149 s150 =>
gop v145 true s150 (fun K => vop (loadV false 1 v149 s150.get) s150 K) fun v151 s152 =>
gop v145 true s152 (fun K => vop (binI .lss v147 v151) s152 K) fun v153 s154 =>
vop (pickV v145 v153 (.bool false)) s154 fun v155 s156 =>
gop v155 false s156 (fun K => K x113 s156) fun v157 s158 =>
gop v155 false s158 (fun K => vop (faddr 8 v12) s158 K) fun v159 s160 =>
gop v155 false s160 (fun K => vop (loadV false 1 v159 s160.get) s160 K) fun v161 s162 =>
gop v155 false s162 (fun K => vop (binI .gtr v157 v161) s162 K) fun v163 s164 =>
vop (pickV v155 (.bool true) v163) s164 fun v165 s166 =>
vop (binI .neq v125 (.int .i64 0)) s166 fun v167 s168 =>
gop v167 false s168 (fun K => K v135 s168) fun v169 s170 =>
gop v167 false s170 (fun K => vop (binI .neq v169 (.int .i64 0)) s170 K) fun v171 s172 =>
vop (pickV v167 (.bool true) v171) s172 fun v173 s174 =>
p4_2 v173 s174 K v165 v0 s166 x113 v127 v137 n112
def p4_4 (v121 : Value) (s122 : Store) (v62 : Value) (x113 : Value) (v12 : Value) (K : Value → Store → Prop) (v0 : Value) (n112 : Value → Store → Prop) : Prop :=
vop (extractV v121 0) s122 fun v123 s124 =>
vop (extractV v121 1) s124 fun v125 s126 =>
nop (some (.cells (unrle [(1024, (.int .u8 0))]) none, ptrTo)) s126 fun v127 s128 =>
eop (storeV 1024 v127 v123 s128) fun _ s130 =>
Does Try.prog 10 [v62, x113] s130 fun v131 s132 =>
vop (extractV v131 0) s132 fun v133 s134 =>
vop (extractV v131 1) s134 fun v135 s136 =>
nop (some (.cells (unrle [(1024, (.int .u8 0))]) none, ptrTo)) s136 fun v137 s138 =>
eop (storeV 1024 v137 v133 s138) fun _ s140 =>
vop (faddr 3 v12) s140 fun v141 s142 =>
vop (loadV false 1 v141 s142.get) s142 fun v143 s144 =>
vop (binI .gtr x113 v143) s144 fun v145 s146 =>
gop v145 true s146 (fun K => K x113 s146) fun v147 s148 =>
p4_3 v145 s148 K v12 v147 x113 v125 v135 v0 v127 v137 n112
def p4_5 (v225 : Value) (s226 : Store) (K : Value → Store → Prop) (v52 : Value) (v216 : Value) (v220 : Value) : Prop :=
vop (binI .eql v225 (.int .i64 0)) s226 fun v227 s228 =>
gop v227 true s228 (fun K => K v52 s228) fun v229 s230 =>
gop v227 true s230 (fun K => Does Try.prog 9 [v229] s230 K) fun v231 s232 =>
gop v227 true s232 (fun K => K v216 s232) fun v233 s234 =>
gop v227 true s234 (fun K => vop (binI .mul (.int .i64 2) v233) s234 K) fun v235 s236 =>
gop v227 true s236 (fun K => vop (binI .eql v231 v235) s236 K) fun v237 s238 =>
vop (pickV v227 v237 (.bool false)) s238 fun v239 s240 =>
gop v239 true s240 (fun K => K v52 s240) fun v241 s242 =>
gop v239 true s242 (fun K => Does Try.prog 18 [v241] s242 K) fun v243 s244 =>
gop v239 true s244 (fun K => vop (loadV true 2 v220 s244.get) s244 K) fun v245 _ =>
kop (gsel v239 true (loadV true 2 v220) s232.get) v245 (
gop v239 true s244 (fun K => Does Try.prog 19 [v243, v245] s244 K) fun v246 s247 =>
vop (pickV v239 v246 (.bool false)) s247 fun v248 s249 =>
K v248 s249)
def p4_6 (v0 : Value) (v52 : Value) (v62 : Value) (v12 : Value) (K : Value → Store → Prop) (v2 : Value) (s111 : Store) : Prop :=
lop 1 (fun (n112 : Value → Store → Prop) x113 s114 =>
vop (faddr 0 v0) s114 fun v115 s116 =>
vop (loadV false 1 v115 s116.get) s116 fun v117 s118 =>
vop (binI .lss x113 v117) s118 fun v119 s120 =>
condH v119 (
Does Try.prog 10 [v52, x113] s120 fun v121 s122 =>
p4_4 v121 s122 v62 x113 v12 K v0 n112) (
Does Try.prog 9 [v52] s120 fun v216 s217 =>
Does Try.prog 18 [v52] s217 fun v218 s219 =>
nop (some (.cells (unrle [(1, (.int .i64 0)), (1, (.slice none 0 0))]) none, ptrTo)) s219 fun v220 s221 =>
eop (storeV 2 v220 v218 s221) fun _ s223 =>
vop (loadV true 3 v2 s223.get) s223 fun v224 _ =>
Does Try.prog 8 [v52, v224] s223 fun v225 s226 =>
p4_5 v225 s226 K v52 v216 v220)) (.int .i64 0) s111
def p4_7 (v84 : Value) (v88 : Value) (s89 : Store) (K : Value → Store → Prop) (v52 : Value) (v2 : Value) (v62 : Value) (v0 : Value) (v12 : Value) : Prop :=
vop (pickV v84 (.bool true) v88) s89 fun v90 s91 =>
gop v90 false s91 (fun K => K v52 s91) fun v92 s93 =>
gop v90 false s93 (fun K => vop (loadV true 3 v2 s93.get) s93 K) fun v94 s95 =>
gop v90 false s95 (fun K => Does Try.prog 8 [v92, v94] s95 K) fun v96 s97 =>
gop v90 false s97 (fun K => vop (binI .neq v96 (.int .i64 0)) s97 K) fun v98 s99 =>
vop (pickV v90 (.bool true) v98) s99 fun v100 s101 =>
gop v100 false s101 (fun K => K v62 s101) fun v102 s103 =>
gop v100 false s103 (fun K => vop (loadV true 3 v2 s103.get) s103 K) fun v104 s105 =>
gop v100 false s105 (fun K => Does Try.prog 8 [v102, v104] s105 K) fun v106 s107 =>
gop v100 false s107 (fun K => vop (binI .neq v106 (.int .i64 0)) s107 K) fun v108 s109 =>
vop (pickV v100 (.bool true) v108) s109 fun v110 s111 =>
condH v110 (
K (.bool false) s111) (
p4_6 v0 v52 v62 v12 K v2 s111)
def p4_8 (v60 : Value) (s63 : Store) (v54 : Value) (K : Value → Store → Prop) (v52 : Value) (v62 : Value) (v2 : Value) (v0 : Value) (v12 : Value) : Prop :=
vop (extractV v60 1) s63 fun v64 s65 =>
vop (binI .neq v54 (.int .i64 0)) s65 fun v66 s67 =>
gop v66 false s67 (fun K => K v64 s67) fun v68 s69 =>
gop v66 false s69 (fun K => vop (binI .neq v68 (.int .i64 0)) s69 K) fun v70 s71 =>
vop (pickV v66 (.bool true) v70) s71 fun v72 s73 =>
gop v72 false s73 (fun K => K v52 s73) fun v74 s75 =>
gop v72 false s75 (fun K => vop (eqPn false v74 (.pointer none)) s75 K) fun v76 s77 =>
vop (pickV v72 (.bool true) v76) s77 fun v78 s79 =>
gop v78 false s79 (fun K => K v62 s79) fun v80 s81 =>
gop v78 false s81 (fun K => vop (eqPn false v80 (.pointer none)) s81 K) fun v82 s83 =>
vop (pickV v78 (.bool true) v82) s83 fun v84 s85 =>
gop v84 false s85 (fun K => Does Try.prog 7 [] s85 K) fun v86 s87 =>
gop v84 false s87 (fun K => vop (unV .not v86) s87 K) fun v88 s89 =>
p4_7 v84 v88 s89 K v52 v2 v62 v0 v12
def p4_9 (v34 : Value) (s41 : Store) (K : Value → Store → Prop) (v40 : Value) (v38 : Value) (v0 : Value) (v2 : Value) (v12 : Value) : Prop :=
gop v34 false s41 (fun K => vop (loadV false 1 v40 s41.get) s41 K) fun v42 s43 =>
gop v34 false s43 (fun K => vop (binI .gtr v38 v42) s43 K) fun v44 s45 =>
vop (pickV v34 (.bool true) v44) s45 fun v46 s47 =>
condH v46 (
K (.bool true) s47) (
vop (loadV true 2 v0 s47.get) s47 fun v48 s49 =>
Does Try.prog 16 [v48] s49 fun v50 s51 =>
vop (extractV v50 0) s51 fun v52 s53 =>
vop (extractV v50 1) s53 fun v54 s55 =>
vop (faddr 0 v0) s55 fun v56 s57 =>
vop (loadV false 1 v56 s57.get) s57 fun v58 s59 =>
Does Try.prog 6 [v58] s59 fun v60 s61 =>
vop (extractV v60 0) s61 fun v62 s63 =>
p4_8 v60 s63 v54 K v52 v62 v2 v0 v12)
def p4_10 (v0 : Value) (s15 : Store) (v2 : Value) (K : Value → Store → Prop) (v10 : Value) (v12 : Value) : Prop :=
vop (loadV true 2 v0 s15.get) s15 fun v16 s17 =>
vop (loadV true 3 v2 s17.get) s17 fun v18 s19 =>
Does Try.prog 14 [v16, v18] s19 fun v20 s21 =>
gop v20 false s21 (fun K => vop (loadV true 2 v0 s21.get) s21 K) fun v22 s23 =>
gop v20 false s23 (fun K => Does Try.prog 15 [v22] s23 K) fun v24 s25 =>
gop v20 false s25 (fun K => vop (binI .neq v24 (.int .i64 0)) s25 K) fun v26 s27 =>
vop (pickV v20 (.bool true) v26) s27 fun v28 s29 =>
gop v28 false s29 (fun K => K v10 s29) fun v30 s31 =>
gop v28 false s31 (fun K => vop (binI .neq v30 (.int .i64 0)) s31 K) fun v32 s33 =>
vop (pickV v28 (.bool true) v32) s33 fun v34 s35 =>
gop v34 false s35 (fun K => vop (faddr 0 v2) s35 K) fun v36 s37 =>
gop v34 false s37 (fun K => vop (loadV false 1 v36 s37.get) s37 K) fun v38 s39 =>
gop v34 false s39 (fun K => vop (faddr 0 v0) s39 K) fun v40 s41 =>
p4_9 v34 s41 K v40 v38 v0 v2 v12
/-- undercroft/undercroftlaw23.MkfsStays -/
def p4 (K : Value → Store → Prop) (a0 a1 : Value) (s : Store) : Prop :=
nop (boxN a0) s fun v0 s1 =>
nop (boxN a1) s1 fun v2 s3 =>
vop (loadV true 3 v2 s3.get) s3 fun v4 s5 =>
Does Try.prog 13 [v4] s5 fun v6 s7 =>
vop (extractV v6 0) s7 fun v8 s9 =>
vop (extractV v6 1) s9 fun v10 s11 =>
nop (some (.cells (unrle [(9, (.int .i64 0))]) none, ptrTo)) s11 fun v12 s13 =>
eop (storeV 9 v12 v8 s13) fun _ s15 =>
p4_10 v0 s15 v2 K v10 v12
theorem e4 (K : Value → Store → Prop) (a0 a1 : Value) (s : Store) : bodyT Try.prog Try.f4 [a0, a1] s K = p4 K a0 a1 s := by kernel_rfl
theorem d4 {K : Value → Store → Prop} {a0 a1 : Value} {s : Store} (h : p4 K a0 a1 s) : Does Try.prog 4 [a0, a1] s K := does_of_print Try.func4 (by kernel_rfl) ((e4 K a0 a1 s).symm ▸ h)
def p5_1 (v93 : Value) (s172 : Store) (K : Value → Store → Prop) (v161 : Value) (v0 : Value) (v52 : Value) (v171 : Value) : Prop :=
vop (binI .lss v93 (.int .i64 2)) s172 fun v173 s174 =>
gop v173 true s174 (fun K => vop (loadV true 2 v161 s174.get) s174 K) fun v175 s176 =>
gop v173 true s176 (fun K => vop (loadV true 2 v0 s176.get) s176 K) fun v177 s178 =>
gop v173 true s178 (fun K => Does Try.prog 19 [v175, v177] s178 K) fun v179 s180 =>
vop (pickV v173 v179 (.bool false)) s180 fun v181 s182 =>
Does Try.prog 18 [v52] s182 fun v183 s184 =>
vop (loadV true 2 v161 s184.get) s184 fun v185 _ =>
kop (loadV true 2 v161 s182.get) v185 (
Does Try.prog 19 [v185, v183] s184 fun v186 s187 =>
gop v181 false s187 (fun K => K v171 s187) fun v188 s189 =>
vop (pickV v181 (.bool true) v188) s189 fun v190 s191 =>
gop v190 false s191 (fun K => K v186 s191) fun v192 s193 =>
vop (pickV v190 (.bool true) v192) s193 fun v194 s195 =>
K v194 s195)
def p5_2 (v147 : Value) (s150 : Store) (K : Value → Store → Prop) (a2 : Value) (v149 : Value) (v99 : Value) (v93 : Value) (v0 : Value) (v52 : Value) : Prop :=
gop v147 false s150 (fun K => K a2 s150) fun v151 s152 =>
gop v147 false s152 (fun K => Does Try.prog 12 [v149, v151] s152 K) fun v153 s154 =>
gop v147 false s154 (fun K => vop (binI .neq v153 (.int .i64 0)) s154 K) fun v155 s156 =>
vop (pickV v147 (.bool true) v155) s156 fun v157 s158 =>
condH v157 (
K (.bool false) s158) (
Does Try.prog 18 [v99] s158 fun v159 s160 =>
nop (some (.cells (unrle [(1, (.int .i64 0)), (1, (.slice none 0 0))]) none, ptrTo)) s160 fun v161 s162 =>
eop (storeV 2 v161 v159 s162) fun _ s164 =>
vop (loadV true 2 v161 s164.get) s164 fun v165 s166 =>
Does Try.prog 17 [v165, (.int .i64 0)] s166 fun v167 s168 =>
vop (aggOf (buildL (List.replicate 1024 (unrle [(1, (.int .u8 0))])) [])) s168 fun v169 s170 =>
vop (eqA (.ints .u8 1024) false v167 v169) s170 fun v171 s172 =>
p5_1 v93 s172 K v161 v0 v52 v171)
def p5_3 (v123 : Value) (s124 : Store) (K : Value → Store → Prop) (v115 : Value) (v99 : Value) (v93 : Value) (a2 : Value) (v0 : Value) (v52 : Value) : Prop :=
gop v123 false s124 (fun K => K v115 s124) fun v125 s126 =>
gop v123 false s126 (fun K => vop (binI .neq v125 (.int .i64 0)) s126 K) fun v127 s128 =>
gop v123 false s128 (fun K => K v127 s128) fun v129 s130 =>
gop v129 true s130 (fun K => K v115 s130) fun v131 s132 =>
gop v129 true s132 (fun K => vop (binI .neq v131 (.int .i64 3)) s132 K) fun v133 s134 =>
gop v123 false s134 (fun K => vop (pickV v129 v133 (.bool false)) s134 K) fun v135 s136 =>
vop (pickV v123 (.bool true) v135) s136 fun v137 s138 =>
gop v137 false s138 (fun K => K v99 s138) fun v139 s140 =>
gop v137 false s140 (fun K => Does Try.prog 9 [v139] s140 K) fun v141 s142 =>
gop v137 false s142 (fun K => K v93 s142) fun v143 s144 =>
gop v137 false s144 (fun K => vop (binI .neq v141 v143) s144 K) fun v145 s146 =>
vop (pickV v137 (.bool true) v145) s146 fun v147 s148 =>
gop v147 false s148 (fun K => K v99 s148) fun v149 s150 =>
p5_2 v147 s150 K a2 v149 v99 v93 v0 v52
def p5_4 (v101 : Value) (s102 : Store) (K : Value → Store → Prop) (v99 : Value) (v93 : Value) (v2 : Value) (v52 : Value) (a2 : Value) (v0 : Value) : Prop :=
vop (binI .neq v101 (.int .i64 0)) s102 fun v103 s104 =>
gop v103 false s104 (fun K => K v99 s104) fun v105 s106 =>
gop v103 false s106 (fun K => vop (eqPn false v105 (.pointer none)) s106 K) fun v107 s108 =>
vop (pickV v103 (.bool true) v107) s108 fun v109 s110 =>
condH v109 (
K (.bool false) s110) (
Does Try.prog 11 [v99, v93] s110 fun _ s112 =>
vop (loadV true 3 v2 s112.get) s112 fun v113 s114 =>
Does Try.prog 8 [v99, v113] s114 fun v115 s116 =>
vop (binI .eql v115 (.int .i64 0)) s116 fun v117 s118 =>
Does Try.prog 9 [v52] s118 fun v119 s120 =>
vop (binI .eql v93 v119) s120 fun v121 s122 =>
vop (eqB true v117 v121) s122 fun v123 s124 =>
p5_3 v123 s124 K v115 v99 v93 a2 v0 v52)
def p5_5 (v52 : Value) (s79 : Store) (a2 : Value) (v2 : Value) (v0 : Value) (K : Value → Store → Prop) : Prop :=
Does Try.prog 9 [v52] s79 fun v80 s81 =>
vop (lenSl a2) s81 fun v82 s83 =>
vop (binI .mul v82 (.int .i64 7)) s83 fun v84 s85 =>
vop (faddr 2 v2) s85 fun v86 s87 =>
vop (loadV false 1 v86 s81.get) s87 fun v88 _ =>
kop (loadV false 1 v86 s79.get) v88 (
vop (binI .add v84 v88) s87 fun v89 s90 =>
vop (binI .add v80 (.int .i64 1)) s90 fun v91 s92 =>
Does Try.prog 20 [v89, v91] s92 fun v93 s94 =>
vop (loadV true 2 v0 s94.get) s94 fun v95 s96 =>
Does Try.prog 16 [v95] s96 fun v97 s98 =>
vop (extractV v97 0) s98 fun v99 s100 =>
vop (extractV v97 1) s100 fun v101 s102 =>
p5_4 v101 s102 K v99 v93 v2 v52 a2 v0)
def p5_6 (v56 : Value) (s57 : Store) (K : Value → Store → Prop) (v52 : Value) (v2 : Value) (a2 : Value) (v0 : Value) : Prop :=
gop v56 false s57 (fun K => K v52 s57) fun v58 s59 =>
gop v56 false s59 (fun K => vop (eqPn false v58 (.pointer none)) s59 K) fun v60 s61 =>
vop (pickV v56 (.bool true) v60) s61 fun v62 s63 =>
gop v62 false s63 (fun K => Does Try.prog 7 [] s63 K) fun v64 s65 =>
gop v62 false s65 (fun K => vop (unV .not v64) s65 K) fun v66 s67 =>
vop (pickV v62 (.bool true) v66) s67 fun v68 s69 =>
gop v68 false s69 (fun K => K v52 s69) fun v70 s71 =>
gop v68 false s71 (fun K => vop (loadV true 3 v2 s71.get) s71 K) fun v72 s73 =>
gop v68 false s73 (fun K => Does Try.prog 8 [v70, v72] s73 K) fun v74 s75 =>
gop v68 false s75 (fun K => vop (binI .neq v74 (.int .i64 0)) s75 K) fun v76 s77 =>
vop (pickV v68 (.bool true) v76) s77 fun v78 s79 =>
condH v78 (
K (.bool false) s79) (
p5_5 v52 s79 a2 v2 v0 K)
def p5_7 (v34 : Value) (s35 : Store) (K : Value → Store → Prop) (v2 : Value) (v0 : Value) (a2 : Value) : Prop :=
gop v34 false s35 (fun K => vop (faddr 0 v2) s35 K) fun v36 s37 =>
gop v34 false s37 (fun K => vop (loadV false 1 v36 s37.get) s37 K) fun v38 s39 =>
gop v34 false s39 (fun K => vop (faddr 0 v0) s39 K) fun v40 s41 =>
gop v34 false s41 (fun K => vop (loadV false 1 v40 s41.get) s41 K) fun v42 s43 =>
gop v34 false s43 (fun K => vop (binI .gtr v38 v42) s43 K) fun v44 s45 =>
vop (pickV v34 (.bool true) v44) s45 fun v46 s47 =>
condH v46 (
K (.bool true) s47) (
vop (loadV true 2 v0 s47.get) s47 fun v48 s49 =>
Does Try.prog 16 [v48] s49 fun v50 s51 =>
vop (extractV v50 0) s51 fun v52 s53 =>
vop (extractV v50 1) s53 fun v54 s55 =>
vop (binI .neq v54 (.int .i64 0)) s55 fun v56 s57 =>
p5_6 v56 s57 K v52 v2 a2 v0)
def p5_8 (v6 : Value) (s9 : Store) (v8 : Value) (v0 : Value) (v2 : Value) (K : Value → Store → Prop) (a2 : Value) : Prop :=
vop (extractV v6 1) s9 fun v10 s11 =>
nop (some (.cells (unrle [(9, (.int .i64 0))]) none, ptrTo)) s11 fun v12 s13 =>
eop (storeV 9 v12 v8 s13) fun _ s15 =>
vop (loadV true 2 v0 s15.get) s15 fun v16 s17 =>
vop (loadV true 3 v2 s17.get) s17 fun v18 s19 =>
Does Try.prog 14 [v16, v18] s19 fun v20 s21 =>
gop v20 false s21 (fun K => vop (loadV true 2 v0 s21.get) s21 K) fun v22 s23 =>
gop v20 false s23 (fun K => Does Try.prog 15 [v22] s23 K) fun v24 s25 =>
gop v20 false s25 (fun K => vop (binI .neq v24 (.int .i64 0)) s25 K) fun v26 s27 =>
vop (pickV v20 (.bool true) v26) s27 fun v28 s29 =>
gop v28 false s29 (fun K => K v10 s29) fun v30 s31 =>
gop v28 false s31 (fun K => vop (binI .neq v30 (.int .i64 0)) s31 K) fun v32 s33 =>
vop (pickV v28 (.bool true) v32) s33 fun v34 s35 =>
p5_7 v34 s35 K v2 v0 a2
/-- undercroft/undercroftlaw23.MkfsMade -/
def p5 (K : Value → Store → Prop) (a0 a1 a2 : Value) (s : Store) : Prop :=
nop (boxN a0) s fun v0 s1 =>
nop (boxN a1) s1 fun v2 s3 =>
vop (loadV true 3 v2 s3.get) s3 fun v4 s5 =>
Does Try.prog 13 [v4] s5 fun v6 s7 =>
vop (extractV v6 0) s7 fun v8 s9 =>
p5_8 v6 s9 v8 v0 v2 K a2
theorem e5 (K : Value → Store → Prop) (a0 a1 a2 : Value) (s : Store) : bodyT Try.prog Try.f5 [a0, a1, a2] s K = p5 K a0 a1 a2 s := by kernel_rfl
theorem d5 {K : Value → Store → Prop} {a0 a1 a2 : Value} {s : Store} (h : p5 K a0 a1 a2 s) : Does Try.prog 5 [a0, a1, a2] s K := does_of_print Try.func5 (by kernel_rfl) ((e5 K a0 a1 a2 s).symm ▸ h)
/-- undercroft/disk.New -/
def p6 (K : Value → Store → Prop) (a0 : Value) (s : Store) : Prop :=
vop (binI .lss a0 (.int .i64 1)) s fun v0 s1 =>
gop v0 false s1 (fun K => K a0 s1) fun v2 s3 =>
gop v0 false s3 (fun K => vop (binI .gtr v2 (.int .i64 1048576)) s3 K) fun v4 s5 =>
vop (pickV v0 (.bool true) v4) s5 fun v6 s7 =>
condH v6 (
K (.tuple #[(.pointer none), (.int .i64 2)]) s7) (
nop (some (.map [] 0, fun i => .map (some i))) s7 fun v8 s9 =>
nop (some (.map [] 0, fun i => .map (some i))) s9 fun v10 s11 =>
vop (aggOf (buildL [(unrle [(1, (.int .i64 0))]), (unrle [(1, (.map none))]), (unrle [(1, (.map none))]), (unrle [(1, (.slice none 0 0))]), (unrle [(1, (.slice none 0 0))]), (unrle [(1, (.int .i64 0))]), (unrle [(1, (.bool false))]), (unrle [(1, (.int .i64 0))]), (unrle [(1, (.int .i64 0))]), (unrle [(1, (.int .i64 0))]), (unrle [(1, (.int .i64 0))])] [(0, a0), (1, v8), (2, v10), (5, (.int .i64 (-1)))])) s11 fun v12 s13 =>
nop (boxN v12) s13 fun v14 s15 =>
K (.tuple #[v14, (.int .i64 0)]) s15)
theorem e6 (K : Value → Store → Prop) (a0 : Value) (s : Store) : bodyT Try.prog Try.f6 [a0] s K = p6 K a0 s := by kernel_rfl
theorem d6 {K : Value → Store → Prop} {a0 : Value} {s : Store} (h : p6 K a0 s) : Does Try.prog 6 [a0] s K := does_of_print Try.func6 (by kernel_rfl) ((e6 K a0 s).symm ▸ h)
/-- undercroft/undercroftlaw23.lives -/
def p7 (K : Value → Store → Prop) (s : Store) : Prop :=
Does Try.prog 6 [(.int .i64 400)] s fun v0 s1 =>
vop (extractV v0 0) s1 fun v2 s3 =>
vop (extractV v0 1) s3 fun v4 s5 =>
vop (binI .eql v4 (.int .i64 0)) s5 fun v6 s7 =>
gop v6 true s7 (fun K => K v2 s7) fun v8 s9 =>
gop v6 true s9 (fun K => vop (eqPn true v8 (.pointer none)) s9 K) fun v10 s11 =>
vop (pickV v6 v10 (.bool false)) s11 fun v12 s13 =>
gop v12 true s13 (fun K => K v2 s13) fun v14 s15 =>
gop v12 true s15 (fun K => vop (aggOf (buildL [(unrle [(1, (.int .i64 0))]), (unrle [(1, (.int .i64 0))]), (unrle [(1, (.int .i64 0))])] [(0, (.int .i64 400)), (1, (.int .i64 32)), (2, (.int .i64 60))])) s15 K) fun v16 s17 =>
gop v12 true s17 (fun K => Does Try.prog 8 [v14, v16] s17 K) fun v18 s19 =>
gop v12 true s19 (fun K => vop (binI .eql v18 (.int .i64 0)) s19 K) fun v20 s21 =>
vop (pickV v12 v20 (.bool false)) s21 fun v22 s23 =>
gop v22 true s23 (fun K => K v2 s23) fun v24 s25 =>
gop v22 true s25 (fun K => Does Try.prog 9 [v24] s25 K) fun v26 s27 =>
gop v22 true s27 (fun K => vop (binI .eql v26 (.int .i64 12)) s27 K) fun v28 s29 =>
vop (pickV v22 v28 (.bool false)) s29 fun v30 s31 =>
K v30 s31
theorem e7 (K : Value → Store → Prop) (s : Store) : bodyT Try.prog Try.f7 [] s K = p7 K s := by kernel_rfl
theorem d7 {K : Value → Store → Prop} {s : Store} (h : p7 K s) : Does Try.prog 7 [] s K := does_of_print Try.func7 (by kernel_rfl) ((e7 K s).symm ▸ h)
def p8_1 (v70 : Value) (s69 : Store) (s71 : Store) (s60 : Store) (s63 : Store) (s66 : Store) (v51 : Value) (v62 : Value) (v65 : Value) (v68 : Value) (a0 : Value) (K : Value → Store → Prop) (v41 : Value) : Prop :=
vop (loadV false 1 v70 s69.get) s71 fun v72 _ =>
kop (loadV false 1 v70 s60.get) v72 (
kop (loadV false 1 v70 s63.get) v72 (
kop (loadV false 1 v70 s66.get) v72 (
vop (aggOf (buildL [(unrle [(1, (.int .i64 0))]), (unrle [(1, (.slice none 0 0))])] [(0, v72), (1, v51)])) s71 fun v73 s74 =>
nop (sliceOf 4 (buildL (List.replicate 4 (unrle [(1, (.int .i64 0)), (1, (.slice none 0 0))])) [(0, v73), (1, v62), (2, v65), (3, v68)])) s74 fun v75 s76 =>
Does Try.prog 26 [a0, v75] s76 fun v77 s78 =>
vop (binI .neq v77 (.int .i64 0)) s78 fun v79 s80 =>
condH v79 (
K v77 s80) (
vop (loadV true 1024 v41 s80.get) s80 fun v81 s82 =>
nop (sliceOf 1 (buildL (List.replicate 1 (unrle [(1024, (.int .u8 0))])) [(0, v81)])) s82 fun v83 s84 =>
vop (aggOf (buildL [(unrle [(1, (.int .i64 0))]), (unrle [(1, (.slice none 0 0))])] [(0, (.int .i64 0)), (1, v83)])) s84 fun v85 s86 =>
nop (sliceOf 1 (buildL (List.replicate 1 (unrle [(1, (.int .i64 0)), (1, (.slice none 0 0))])) [(0, v85)])) s86 fun v87 s88 =>
Does Try.prog 26 [a0, v87] s88 fun v89 s90 =>
K v89 s90))))
def p8_2 (v57 : Value) (s58 : Store) (K : Value → Store → Prop) (v14 : Value) (v51 : Value) (a0 : Value) (v41 : Value) : Prop :=
vop (binI .neq v57 (.int .i64 0)) s58 fun v59 s60 =>
condH v59 (
K v57 s60) (
vop (loadV true 9 v14 s60.get) s60 fun v61 _ =>
Does Try.prog 27 [v61] s60 fun v62 s63 =>
vop (loadV true 9 v14 s63.get) s63 fun v64 _ =>
kop (loadV true 9 v14 s60.get) v64 (
Does Try.prog 28 [v64] s63 fun v65 s66 =>
vop (loadV true 9 v14 s66.get) s66 fun v67 _ =>
kop (loadV true 9 v14 s60.get) v67 (
kop (loadV true 9 v14 s63.get) v67 (
Does Try.prog 29 [v67] s66 fun v68 s69 =>
vop (faddr 3 v14) s69 fun v70 s71 =>
p8_1 v70 s69 s71 s60 s63 s66 v51 v62 v65 v68 a0 K v41))))
def p8_3 (v35 : Value) (s36 : Store) (K : Value → Store → Prop) (a0 : Value) (v14 : Value) : Prop :=
vop (extractV v35 0) s36 fun v37 s38 =>
vop (extractV v35 1) s38 fun v39 s40 =>
nop (some (.cells (unrle [(1024, (.int .u8 0))]) none, ptrTo)) s40 fun v41 s42 =>
eop (storeV 1024 v41 v37 s42) fun _ s44 =>
vop (binI .neq v39 (.int .i64 0)) s44 fun v45 s46 =>
condH v45 (
K v39 s46) (
Does Try.prog 25 [a0] s46 fun _ s48 =>
vop (aggOf (buildL (List.replicate 1024 (unrle [(1, (.int .u8 0))])) [])) s48 fun v49 s50 =>
nop (sliceOf 1 (buildL (List.replicate 1 (unrle [(1024, (.int .u8 0))])) [(0, v49)])) s50 fun v51 s52 =>
vop (aggOf (buildL [(unrle [(1, (.int .i64 0))]), (unrle [(1, (.slice none 0 0))])] [(0, (.int .i64 0)), (1, v51)])) s52 fun v53 s54 =>
nop (sliceOf 1 (buildL (List.replicate 1 (unrle [(1, (.int .i64 0)), (1, (.slice none 0 0))])) [(0, v53)])) s54 fun v55 s56 =>
Does Try.prog 26 [a0, v55] s56 fun v57 s58 =>
p8_2 v57 s58 K v14 v51 a0 v41)
def p8_4 (v18 : Value) (s21 : Store) (K : Value → Store → Prop) (v20 : Value) (v0 : Value) (s17 : Store) (a0 : Value) (v14 : Value) : Prop :=
gop v18 false s21 (fun K => Does Try.prog 21 [v20] s21 K) fun v22 s23 =>
gop v18 false s23 (fun K => vop (faddr 0 v0) s23 K) fun v24 s25 =>
gop v18 false s25 (fun K => vop (loadV false 1 v24 s23.get) s25 K) fun v26 _ =>
kop (gsel v18 false (loadV false 1 v24) s17.get) v26 (
gop v18 false s25 (fun K => vop (binI .gtr v26 v22) s25 K) fun v27 s28 =>
vop (pickV v18 (.bool true) v27) s28 fun v29 s30 =>
condH v29 (
K (.int .i64 2) s30) (
Does Try.prog 23 [a0] s30 fun v31 s32 =>
condH v31 (
K (.int .i64 3) s32) (
vop (loadV true 9 v14 s32.get) s32 fun v33 s34 =>
Does Try.prog 24 [v33] s34 fun v35 s36 =>
p8_3 v35 s36 K a0 v14)))
/-- undercroft/mkfs.Make -/
def p8 (K : Value → Store → Prop) (a0 a1 : Value) (s : Store) : Prop :=
nop (boxN a1) s fun v0 s1 =>
Does Try.prog 21 [a0] s1 fun v2 s3 =>
vop (binI .eql v2 (.int .i64 0)) s3 fun v4 s5 =>
condH v4 (
K (.int .i64 1) s5) (
vop (loadV true 3 v0 s5.get) s5 fun v6 s7 =>
Does Try.prog 22 [v6] s7 fun v8 s9 =>
vop (extractV v8 0) s9 fun v10 s11 =>
vop (extractV v8 1) s11 fun v12 s13 =>
nop (some (.cells (unrle [(9, (.int .i64 0))]) none, ptrTo)) s13 fun v14 s15 =>
eop (storeV 9 v14 v10 s15) fun _ s17 =>
vop (binI .neq v12 (.int .i64 0)) s17 fun v18 s19 =>
gop v18 false s19 (fun K => K a0 s19) fun v20 s21 =>
p8_4 v18 s21 K v20 v0 s17 a0 v14)
theorem e8 (K : Value → Store → Prop) (a0 a1 : Value) (s : Store) : bodyT Try.prog Try.f8 [a0, a1] s K = p8 K a0 a1 s := by kernel_rfl
theorem d8 {K : Value → Store → Prop} {a0 a1 : Value} {s : Store} (h : p8 K a0 a1 s) : Does Try.prog 8 [a0, a1] s K := does_of_print Try.func8 (by kernel_rfl) ((e8 K a0 a1 s).symm ▸ h)
/-- (*undercroft/disk.Disk).Made -/
def p9 (K : Value → Store → Prop) (a0 : Value) (s : Store) : Prop :=
Does Try.prog 30 [a0] s fun v0 s1 =>
vop (unV .not v0) s1 fun v2 s3 =>
condH v2 (
K (.int .i64 0) s3) (
vop (nilV a0) s3 fun v4 s5 =>
vop (faddr 7 v4) s5 fun v6 s7 =>
vop (loadV false 1 v6 s7.get) s7 fun v8 s9 =>
K v8 s9)
theorem e9 (K : Value → Store → Prop) (a0 : Value) (s : Store) : bodyT Try.prog Try.f9 [a0] s K = p9 K a0 s := by kernel_rfl
theorem d9 {K : Value → Store → Prop} {a0 : Value} {s : Store} (h : p9 K a0 s) : Does Try.prog 9 [a0] s K := does_of_print Try.func9 (by kernel_rfl) ((e9 K a0 s).symm ▸ h)
def p10_1 (v56 : Value) (v58 : Value) (s61 : Store) (v0 : Value) (K : Value → Store → Prop) (a0 : Value) (a1 : Value) : Prop :=
condH v56 (
vop (loadV true 1024 v58 s61.get) s61 fun v62 s63 =>
eop (storeV 1024 v0 v62 s63) fun _ s65 =>
vop (loadV true 1024 v0 s65.get) s65 fun v66 _ =>
K (.tuple #[v66, (.int .i64 0)]) s65) (
vop (nilV a0) s61 fun v67 s68 =>
vop (faddr 1 v67) s68 fun v69 s70 =>
vop (loadV false 1 v69 s70.get) s70 fun v71 s72 =>
vop (lookupH (.int .i64) (.agg (unrle [(1024, (.int .u8 0))]).toArray) v71 a1 false s72.get) s72 fun v73 s74 =>
nop (some (.cells (unrle [(1024, (.int .u8 0))]) none, ptrTo)) s74 fun v75 s76 =>
eop (storeV 1024 v75 v73 s76) fun _ s78 =>
vop (loadV true 1024 v75 s78.get) s78 fun v79 s80 =>
eop (storeV 1024 v0 v79 s80) fun _ s82 =>
vop (loadV true 1024 v0 s82.get) s82 fun v83 _ =>
K (.tuple #[v83, (.int .i64 0)]) s82)
def p10_2 (v34 : Value) (s35 : Store) (a0 : Value) (a1 : Value) (v0 : Value) (K : Value → Store → Prop) : Prop :=
vop (loadV false 1 v34 s35.get) s35 fun v36 s37 =>
vop (binI .add v36 (.int .i64 1)) s37 fun v38 s39 =>
vop (nilV a0) s39 fun v40 s41 =>
vop (faddr 8 v40) s41 fun v42 s43 =>
eop (storeV 1 v42 v38 s43) fun _ s45 =>
vop (nilV a0) s45 fun v46 s47 =>
vop (faddr 2 v46) s47 fun v48 s49 =>
vop (loadV false 1 v48 s49.get) s49 fun v50 s51 =>
vop (lookupH (.int .i64) (.agg (unrle [(1024, (.int .u8 0))]).toArray) v50 a1 true s51.get) s51 fun v52 s53 =>
vop (extractV v52 0) s53 fun v54 s55 =>
vop (extractV v52 1) s55 fun v56 s57 =>
nop (some (.cells (unrle [(1024, (.int .u8 0))]) none, ptrTo)) s57 fun v58 s59 =>
eop (storeV 1024 v58 v54 s59) fun _ s61 =>
p10_1 v56 v58 s61 v0 K a0 a1
def p10_3 (v11 : Value) (s14 : Store) (K : Value → Store → Prop) (a0 : Value) (v13 : Value) (v0 : Value) (a1 : Value) : Prop :=
gop v11 false s14 (fun K => K a0 s14) fun v15 s16 =>
gop v11 false s16 (fun K => vop (nilV v15) s16 K) fun v17 s18 =>
gop v11 false s18 (fun K => vop (faddr 0 v17) s18 K) fun v19 s20 =>
gop v11 false s20 (fun K => vop (loadV false 1 v19 s20.get) s20 K) fun v21 s22 =>
gop v11 false s22 (fun K => vop (binI .geq v13 v21) s22 K) fun v23 s24 =>
vop (pickV v11 (.bool true) v23) s24 fun v25 s26 =>
condH v25 (
vop (aggOf (buildL (List.replicate 1024 (unrle [(1, (.int .u8 0))])) [])) s26 fun v27 s28 =>
eop (storeV 1024 v0 v27 s28) fun _ s30 =>
vop (loadV true 1024 v0 s30.get) s30 fun v31 _ =>
K (.tuple #[v31, (.int .i64 2)]) s30) (
vop (nilV a0) s26 fun v32 s33 =>
vop (faddr 8 v32) s33 fun v34 s35 =>
p10_2 v34 s35 a0 a1 v0 K)
/-- (*undercroft/disk.Disk).Read -/
def p10 (K : Value → Store → Prop) (a0 a1 : Value) (s : Store) : Prop :=
nop (some (.cells (unrle [(1024, (.int .u8 0))]) none, ptrTo)) s fun v0 s1 =>
Does Try.prog 31 [a0] s1 fun v2 s3 =>
vop (binI .neq v2 (.int .i64 0)) s3 fun v4 s5 =>
condH v4 (
vop (aggOf (buildL (List.replicate 1024 (unrle [(1, (.int .u8 0))])) [])) s5 fun v6 s7 =>
eop (storeV 1024 v0 v6 s7) fun _ s9 =>
vop (loadV true 1024 v0 s9.get) s9 fun v10 _ =>
K (.tuple #[v10, v2]) s9) (
vop (binI .lss a1 (.int .i64 0)) s5 fun v11 s12 =>
gop v11 false s12 (fun K => K a1 s12) fun v13 s14 =>
p10_3 v11 s14 K a0 v13 v0 a1)
theorem e10 (K : Value → Store → Prop) (a0 a1 : Value) (s : Store) : bodyT Try.prog Try.f10 [a0, a1] s K = p10 K a0 a1 s := by kernel_rfl
theorem d10 {K : Value → Store → Prop} {a0 a1 : Value} {s : Store} (h : p10 K a0 a1 s) : Does Try.prog 10 [a0, a1] s K := does_of_print Try.func10 (by kernel_rfl) ((e10 K a0 a1 s).symm ▸ h)
/-- (*undercroft/disk.Disk).Fuse -/
def p11 (K : Value → Store → Prop) (a0 a1 : Value) (s : Store) : Prop :=
Does Try.prog 31 [a0] s fun v0 s1 =>
vop (binI .eql v0 (.int .i64 0)) s1 fun v2 s3 =>
condH v2 (
vop (minMaxV true [a1, (.int .i64 (-1))]) s3 fun v4 s5 =>
vop (nilV a0) s5 fun v6 s7 =>
vop (faddr 5 v6) s7 fun v8 s9 =>
eop (storeV 1 v8 v4 s9) fun _ s11 =>
K (.tuple #[]) s11) (
K (.tuple #[]) s3)
theorem e11 (K : Value → Store → Prop) (a0 a1 : Value) (s : Store) : bodyT Try.prog Try.f11 [a0, a1] s K = p11 K a0 a1 s := by kernel_rfl
theorem d11 {K : Value → Store → Prop} {a0 a1 : Value} {s : Store} (h : p11 K a0 a1 s) : Does Try.prog 11 [a0, a1] s K := does_of_print Try.func11 (by kernel_rfl) ((e11 K a0 a1 s).symm ▸ h)
def p12_1 (s21 : Store) (v20 : Value) (a1 : Value) (x13 : Value) (K : Value → Store → Prop) (a0 : Value) (k17 : Store → Prop) : Prop :=
nop (some (.cells (unrle [(1, (.int .i64 0)), (1024, (.int .u8 0))]) none, ptrTo)) s21 fun v22 s23 =>
eop (storeV 1025 v22 v20 s23) fun _ s25 =>
vop (lenSl a1) s25 fun v26 s27 =>
vop (binI .lss x13 v26) s27 fun v28 s29 =>
gop v28 true s29 (fun K => K a1 s29) fun v30 s31 =>
gop v28 true s31 (fun K => K x13 s31) fun v32 s33 =>
gop v28 true s33 (fun K => vop (iaddrS 1 v30 v32) s33 K) fun v34 s35 =>
gop v28 true s35 (fun K => vop (loadV false 1 v34 s35.get) s35 K) fun v36 s37 =>
vop (pickV v28 v36 (.bool false)) s37 fun v38 s39 =>
condH v38 (
vop (loadV true 1025 v22 s39.get) s39 fun v40 s41 =>
Does Try.prog 32 [a0, v40] s41 fun _ s43 =>
k17 s43) (
k17 s39)
def p12_2 (a0 : Value) (s58 : Store) (K : Value → Store → Prop) : Prop :=
vop (nilV a0) s58 fun v59 s60 =>
vop (faddr 2 v59) s60 fun v61 s62 =>
vop (loadV false 1 v61 s62.get) s62 fun v63 s64 =>
eop (clearV v63 s64) fun _ s66 =>
vop (nilV a0) s66 fun v67 s68 =>
vop (faddr 6 v67) s68 fun v69 s70 =>
eop (storeV 1 v69 (.bool false) s70) fun _ s72 =>
vop (nilV a0) s72 fun v73 s74 =>
vop (faddr 5 v73) s74 fun v75 s76 =>
eop (storeV 1 v75 (.int .i64 (-1)) s76) fun _ s78 =>
vop (nilV a0) s78 fun v79 s80 =>
vop (faddr 10 v79) s80 fun v81 s82 =>
eop (storeV 1 v81 (.int .i64 0) s82) fun _ s84 =>
K (.int .i64 0) s84
def p12_3 (v15 : Value) (v8 : Value) (x13 : Value) (s16 : Store) (a1 : Value) (K : Value → Store → Prop) (a0 : Value) (n12 : Value → Store → Prop) : Prop :=
condH v15 (
jop 0 (fun (k17 : Store → Prop) =>
vop (iaddrS 1025 v8 x13) s16 fun v18 s19 =>
vop (loadV true 1025 v18 s19.get) s19 fun v20 s21 =>
p12_1 s21 v20 a1 x13 K a0 k17) fun s44 =>
vop (binI .add x13 (.int .i64 1)) s44 fun v45 s46 =>
n12 v45 s46) (
vop (nilV a0) s16 fun v47 s48 =>
vop (faddr 3 v47) s48 fun v49 s50 =>
eop (storeV 1 v49 (.slice none 0 0) s50) fun _ s52 =>
vop (nilV a0) s52 fun v53 s54 =>
vop (faddr 4 v53) s54 fun v55 s56 =>
eop (storeV 1 v55 (.slice none 0 0) s56) fun _ s58 =>
p12_2 a0 s58 K)
/-- (*undercroft/disk.Disk).Crash -/
def p12 (K : Value → Store → Prop) (a0 a1 : Value) (s : Store) : Prop :=
Does Try.prog 30 [a0] s fun v0 s1 =>
vop (unV .not v0) s1 fun v2 s3 =>
condH v2 (
K (.int .i64 1) s3) (
vop (nilV a0) s3 fun v4 s5 =>
vop (faddr 3 v4) s5 fun v6 s7 =>
vop (loadV false 1 v6 s7.get) s7 fun v8 s9 =>
vop (lenSl v8) s9 fun v10 s11 =>
lop 1 (fun (n12 : Value → Store → Prop) x13 s14 =>
vop (binI .lss x13 v10) s14 fun v15 s16 =>
p12_3 v15 v8 x13 s16 a1 K a0 n12) (.int .i64 0) s11)
theorem e12 (K : Value → Store → Prop) (a0 a1 : Value) (s : Store) : bodyT Try.prog Try.f12 [a0, a1] s K = p12 K a0 a1 s := by kernel_rfl
theorem d12 {K : Value → Store → Prop} {a0 a1 : Value} {s : Store} (h : p12 K a0 a1 s) : Does Try.prog 12 [a0, a1] s K := does_of_print Try.func12 (by kernel_rfl) ((e12 K a0 a1 s).symm ▸ h)
def p13_1 (v65 : Value) (s146 : Store) (v0 : Value) (v2 : Value) (K : Value → Store → Prop) : Prop :=
vop (faddr 8 v65) s146 fun v147 s148 =>
vop (loadV false 1 v147 s148.get) s148 fun v149 s150 =>
vop (faddr 0 v0) s150 fun v151 s152 =>
vop (loadV false 1 v151 s152.get) s152 fun v153 s154 =>
vop (binI .geq v149 v153) s154 fun v155 s156 =>
condH v155 (
vop (aggOf (buildL [(unrle [(3, (.int .i64 0))]), (unrle [(1, (.int .i64 0))]), (unrle [(1, (.int .i64 0))]), (unrle [(1, (.int .i64 0))]), (unrle [(1, (.int .i64 0))]), (unrle [(1, (.int .i64 0))]), (unrle [(1, (.int .i64 0))])] [])) s156 fun v157 s158 =>
eop (storeV 9 v2 v157 s158) fun _ s160 =>
vop (loadV true 9 v2 s160.get) s160 fun v161 _ =>
K (.tuple #[v161, (.int .i64 2)]) s160) (
vop (loadV true 9 v65 s156.get) s156 fun v162 s163 =>
eop (storeV 9 v2 v162 s163) fun _ s165 =>
vop (loadV true 9 v2 s165.get) s165 fun v166 _ =>
K (.tuple #[v166, (.int .i64 0)]) s165)
def p13_2 (v121 : Value) (v65 : Value) (s122 : Store) (n109 : Store → Prop) (v0 : Value) (v2 : Value) (K : Value → Store → Prop) : Prop :=
condH v121 (
vop (faddr 7 v65) s122 fun v123 s124 =>
vop (loadV false 1 v123 s124.get) s124 fun v125 s126 =>
vop (binI .add v125 (.int .i64 1)) s126 fun v127 s128 =>
vop (faddr 7 v65) s128 fun v129 s130 =>
eop (storeV 1 v129 v127 s130) fun _ s132 =>
n109 s132) (
vop (faddr 6 v65) s122 fun v133 s134 =>
vop (loadV false 1 v133 s134.get) s134 fun v135 s136 =>
vop (faddr 7 v65) s136 fun v137 s138 =>
vop (loadV false 1 v137 s138.get) s138 fun v139 s140 =>
vop (binI .add v135 v139) s140 fun v141 s142 =>
vop (faddr 8 v65) s142 fun v143 s144 =>
eop (storeV 1 v143 v141 s144) fun _ s146 =>
p13_1 v65 s146 v0 v2 K)
def p13_3 (v95 : Value) (s96 : Store) (v65 : Value) (v0 : Value) (v2 : Value) (K : Value → Store → Prop) : Prop :=
vop (loadV false 1 v95 s96.get) s96 fun v97 s98 =>
vop (faddr 5 v65) s98 fun v99 s100 =>
vop (loadV false 1 v99 s100.get) s100 fun v101 s102 =>
vop (binI .add v97 v101) s102 fun v103 s104 =>
vop (faddr 6 v65) s104 fun v105 s106 =>
eop (storeV 1 v105 v103 s106) fun _ s108 =>
lop 0 (fun (n109 : Store → Prop) s110 =>
vop (faddr 7 v65) s110 fun v111 s112 =>
vop (loadV false 1 v111 s112.get) s112 fun v113 s114 =>
vop (binI .mul (.int .i64 8192) v113) s114 fun v115 s116 =>
vop (faddr 0 v0) s116 fun v117 s118 =>
vop (loadV false 1 v117 s118.get) s118 fun v119 s120 =>
vop (binI .lss v115 v119) s120 fun v121 s122 =>
p13_2 v121 v65 s122 n109 v0 v2 K) s108
def p13_4 (v73 : Value) (s74 : Store) (v0 : Value) (v65 : Value) (n69 : Store → Prop) (v2 : Value) (K : Value → Store → Prop) : Prop :=
vop (binI .mul (.int .i64 16) v73) s74 fun v75 s76 =>
vop (faddr 2 v0) s76 fun v77 s78 =>
vop (loadV false 1 v77 s78.get) s78 fun v79 s80 =>
vop (binI .add v79 (.int .i64 1)) s80 fun v81 s82 =>
vop (binI .lss v75 v81) s82 fun v83 s84 =>
condH v83 (
vop (faddr 5 v65) s84 fun v85 s86 =>
vop (loadV false 1 v85 s86.get) s86 fun v87 s88 =>
vop (binI .add v87 (.int .i64 1)) s88 fun v89 s90 =>
vop (faddr 5 v65) s90 fun v91 s92 =>
eop (storeV 1 v91 v89 s92) fun _ s94 =>
n69 s94) (
vop (faddr 4 v65) s84 fun v95 s96 =>
p13_3 v95 s96 v65 v0 v2 K)
def p13_5 (v48 : Value) (s49 : Store) (v2 : Value) (K : Value → Store → Prop) (v0 : Value) : Prop :=
condH v48 (
vop (aggOf (buildL [(unrle [(3, (.int .i64 0))]), (unrle [(1, (.int .i64 0))]), (unrle [(1, (.int .i64 0))]), (unrle [(1, (.int .i64 0))]), (unrle [(1, (.int .i64 0))]), (unrle [(1, (.int .i64 0))]), (unrle [(1, (.int .i64 0))])] [])) s49 fun v50 s51 =>
eop (storeV 9 v2 v50 s51) fun _ s53 =>
vop (loadV true 9 v2 s53.get) s53 fun v54 _ =>
K (.tuple #[v54, (.int .i64 2)]) s53) (
vop (loadV true 3 v0 s49.get) s49 fun v55 s56 =>
vop (faddr 1 v0) s56 fun v57 s58 =>
vop (loadV false 1 v57 s58.get) s58 fun v59 s60 =>
vop (binI .add (.int .i64 1) v59) s60 fun v61 s62 =>
vop (aggOf (buildL [(unrle [(3, (.int .i64 0))]), (unrle [(1, (.int .i64 0))]), (unrle [(1, (.int .i64 0))]), (unrle [(1, (.int .i64 0))]), (unrle [(1, (.int .i64 0))]), (unrle [(1, (.int .i64 0))]), (unrle [(1, (.int .i64 0))])] [(0, v55), (1, (.int .i64 1)), (2, v61)])) s62 fun v63 s64 =>
nop (some (.cells (unrle [(9, (.int .i64 0))]) none, ptrTo)) s64 fun v65 s66 =>
eop (storeV 9 v65 v63 s66) fun _ s68 =>
lop 0 (fun (n69 : Store → Prop) s70 =>
vop (faddr 5 v65) s70 fun v71 s72 =>
vop (loadV false 1 v71 s72.get) s72 fun v73 s74 =>
p13_4 v73 s74 v0 v65 n69 v2 K) s68)
def p13_6 (v16 : Value) (v22 : Value) (s23 : Store) (K : Value → Store → Prop) (v0 : Value) (v2 : Value) : Prop :=
vop (pickV v16 (.bool true) v22) s23 fun v24 s25 =>
gop v24 false s25 (fun K => vop (faddr 2 v0) s25 K) fun v26 s27 =>
gop v24 false s27 (fun K => vop (loadV false 1 v26 s27.get) s27 K) fun v28 s29 =>
gop v24 false s29 (fun K => vop (binI .gtr v28 (.int .i64 65535)) s29 K) fun v30 s31 =>
vop (pickV v24 (.bool true) v30) s31 fun v32 s33 =>
gop v32 false s33 (fun K => vop (faddr 0 v0) s33 K) fun v34 s35 =>
gop v32 false s35 (fun K => vop (loadV false 1 v34 s35.get) s35 K) fun v36 s37 =>
gop v32 false s37 (fun K => vop (binI .gtr v36 (.int .i64 1048576)) s37 K) fun v38 s39 =>
vop (pickV v32 (.bool true) v38) s39 fun v40 s41 =>
gop v40 false s41 (fun K => vop (faddr 0 v0) s41 K) fun v42 s43 =>
gop v40 false s43 (fun K => vop (loadV false 1 v42 s43.get) s43 K) fun v44 s45 =>
gop v40 false s45 (fun K => vop (binI .lss v44 (.int .i64 1)) s45 K) fun v46 s47 =>
vop (pickV v40 (.bool true) v46) s47 fun v48 s49 =>
p13_5 v48 s49 v2 K v0
/-- undercroft/undercroftref03.Of -/
def p13 (K : Value → Store → Prop) (a0 : Value) (s : Store) : Prop :=
nop (boxN a0) s fun v0 s1 =>
nop (some (.cells (unrle [(9, (.int .i64 0))]) none, ptrTo)) s1 fun v2 s3 =>
vop (faddr 1 v0) s3 fun v4 s5 =>
vop (loadV false 1 v4 s5.get) s5 fun v6 s7 =>
vop (binI .lss v6 (.int .i64 32)) s7 fun v8 s9 =>
gop v8 false s9 (fun K => vop (faddr 1 v0) s9 K) fun v10 s11 =>
gop v8 false s11 (fun K => vop (loadV false 1 v10 s11.get) s11 K) fun v12 s13 =>
gop v8 false s13 (fun K => vop (binI .gtr v12 (.int .i64 256)) s13 K) fun v14 s15 =>
vop (pickV v8 (.bool true) v14) s15 fun v16 s17 =>
gop v16 false s17 (fun K => vop (faddr 2 v0) s17 K) fun v18 s19 =>
gop v16 false s19 (fun K => vop (loadV false 1 v18 s19.get) s19 K) fun v20 s21 =>
gop v16 false s21 (fun K => vop (binI .lss v20 (.int .i64 1)) s21 K) fun v22 s23 =>
p13_6 v16 v22 s23 K v0 v2
theorem e13 (K : Value → Store → Prop) (a0 : Value) (s : Store) : bodyT Try.prog Try.f13 [a0] s K = p13 K a0 s := by kernel_rfl
theorem d13 {K : Value → Store → Prop} {a0 : Value} {s : Store} (h : p13 K a0 s) : Does Try.prog 13 [a0] s K := does_of_print Try.func13 (by kernel_rfl) ((e13 K a0 s).symm ▸ h)
/-- undercroft/undercroftlaw23.large -/
def p14 (K : Value → Store → Prop) (a0 a1 : Value) (s : Store) : Prop :=
nop (boxN a0) s fun v0 s1 =>
nop (boxN a1) s1 fun v2 s3 =>
vop (faddr 0 v0) s3 fun v4 s5 =>
vop (loadV false 1 v4 s5.get) s5 fun v6 s7 =>
vop (binI .gtr v6 (.int .i64 9000)) s7 fun v8 s9 =>
gop v8 false s9 (fun K => vop (faddr 1 v0) s9 K) fun v10 s11 =>
gop v8 false s11 (fun K => vop (loadV false 1 v10 s11.get) s11 K) fun v12 s13 =>
gop v8 false s13 (fun K => vop (lenSl v12) s13 K) fun v14 s15 =>
gop v8 false s15 (fun K => vop (binI .gtr v14 (.int .i64 400)) s15 K) fun v16 s17 =>
vop (pickV v8 (.bool true) v16) s17 fun v18 s19 =>
gop v18 false s19 (fun K => vop (faddr 2 v2) s19 K) fun v20 s21 =>
gop v18 false s21 (fun K => vop (loadV false 1 v20 s21.get) s21 K) fun v22 s23 =>
gop v18 false s23 (fun K => vop (binI .gtr v22 (.int .i64 2000)) s23 K) fun v24 s25 =>
gop v18 false s25 (fun K => K v24 s25) fun v26 s27 =>
gop v26 true s27 (fun K => vop (faddr 2 v2) s27 K) fun v28 s29 =>
gop v26 true s29 (fun K => vop (loadV false 1 v28 s29.get) s29 K) fun v30 s31 =>
gop v26 true s31 (fun K => vop (binI .leq v30 (.int .i64 65535)) s31 K) fun v32 s33 =>
gop v18 false s33 (fun K => vop (pickV v26 v32 (.bool false)) s33 K) fun v34 s35 =>
vop (pickV v18 (.bool true) v34) s35 fun v36 s37 =>
K v36 s37
theorem e14 (K : Value → Store → Prop) (a0 a1 : Value) (s : Store) : bodyT Try.prog Try.f14 [a0, a1] s K = p14 K a0 a1 s := by kernel_rfl
theorem d14 {K : Value → Store → Prop} {a0 a1 : Value} {s : Store} (h : p14 K a0 a1 s) : Does Try.prog 14 [a0, a1] s K := does_of_print Try.func14 (by kernel_rfl) ((e14 K a0 a1 s).symm ▸ h)
def p15_1 (v46 : Value) (s53 : Store) (K : Value → Store → Prop) (v52 : Value) (v50 : Value) (v38 : Value) (v16 : Value) (x20 : Value) (n18 : Value → Value → Store → Prop) : Prop :=
gop v46 false s53 (fun K => vop (loadV false 1 v52 s53.get) s53 K) fun v54 s55 =>
gop v46 false s55 (fun K => vop (binI .geq v50 v54) s55 K) fun v56 s57 =>
vop (pickV v46 (.bool true) v56) s57 fun v58 s59 =>
gop v58 false s59 (fun K => vop (faddr 1 v38) s59 K) fun v60 s61 =>
gop v58 false s61 (fun K => vop (loadV true 1024 v60 s61.get) s61 K) fun v62 s63 =>
gop v58 false s63 (fun K => vop (loadV true 1024 v16 s63.get) s63 K) fun v64 s65 =>
gop v58 false s65 (fun K => vop (eqA (.ints .u8 1024) false v62 v64) s65 K) fun v66 s67 =>
vop (pickV v58 (.bool true) v66) s67 fun v68 s69 =>
condH v68 (
K (.int .i64 2) s69) (
vop (faddr 0 v38) s69 fun v70 s71 =>
vop (loadV false 1 v70 s71.get) s71 fun v72 s73 =>
vop (binI .add x20 (.int .i64 1)) s73 fun v74 s75 =>
n18 v72 v74 s75)
def p15_2 (v28 : Value) (v0 : Value) (s29 : Store) (x20 : Value) (x19 : Value) (K : Value → Store → Prop) (v16 : Value) (n18 : Value → Value → Store → Prop) : Prop :=
condH v28 (
vop (faddr 1 v0) s29 fun v30 s31 =>
vop (loadV false 1 v30 s31.get) s31 fun v32 s33 =>
vop (iaddrS 1025 v32 x20) s33 fun v34 s35 =>
vop (loadV true 1025 v34 s35.get) s35 fun v36 s37 =>
nop (some (.cells (unrle [(1, (.int .i64 0)), (1024, (.int .u8 0))]) none, ptrTo)) s37 fun v38 s39 =>
eop (storeV 1025 v38 v36 s39) fun _ s41 =>
vop (faddr 0 v38) s41 fun v42 s43 =>
vop (loadV false 1 v42 s43.get) s43 fun v44 s45 =>
vop (binI .leq v44 x19) s45 fun v46 s47 =>
gop v46 false s47 (fun K => vop (faddr 0 v38) s47 K) fun v48 s49 =>
gop v46 false s49 (fun K => vop (loadV false 1 v48 s49.get) s49 K) fun v50 s51 =>
gop v46 false s51 (fun K => vop (faddr 0 v0) s51 K) fun v52 s53 =>
p15_1 v46 s53 K v52 v50 v38 v16 x20 n18) (
K (.int .i64 0) s29)
def p15_3 (v4 : Value) (s5 : Store) (K : Value → Store → Prop) (v0 : Value) : Prop :=
vop (binI .lss v4 (.int .i64 1)) s5 fun v6 s7 =>
gop v6 false s7 (fun K => vop (faddr 0 v0) s7 K) fun v8 s9 =>
gop v6 false s9 (fun K => vop (loadV false 1 v8 s9.get) s9 K) fun v10 s11 =>
gop v6 false s11 (fun K => vop (binI .gtr v10 (.int .i64 1048576)) s11 K) fun v12 s13 =>
vop (pickV v6 (.bool true) v12) s13 fun v14 s15 =>
condH v14 (
K (.int .i64 2) s15) (
nop (some (.cells (unrle [(1024, (.int .u8 0))]) none, ptrTo)) s15 fun v16 s17 =>
lop 2 (fun (n18 : Value → Value → Store → Prop) x19 x20 s21 =>
vop (faddr 1 v0) s21 fun v22 s23 =>
vop (loadV false 1 v22 s23.get) s23 fun v24 s25 =>
vop (lenSl v24) s25 fun v26 s27 =>
vop (binI .lss x20 v26) s27 fun v28 s29 =>
p15_2 v28 v0 s29 x20 x19 K v16 n18) (.int .i64 (-1)) (.int .i64 0) s17)
/-- undercroft/undercroftref05.Whole -/
def p15 (K : Value → Store → Prop) (a0 : Value) (s : Store) : Prop :=
nop (boxN a0) s fun v0 s1 =>
vop (faddr 0 v0) s1 fun v2 s3 =>
vop (loadV false 1 v2 s3.get) s3 fun v4 s5 =>
p15_3 v4 s5 K v0
theorem e15 (K : Value → Store → Prop) (a0 : Value) (s : Store) : bodyT Try.prog Try.f15 [a0] s K = p15 K a0 s := by kernel_rfl
theorem d15 {K : Value → Store → Prop} {a0 : Value} {s : Store} (h : p15 K a0 s) : Does Try.prog 15 [a0] s K := does_of_print Try.func15 (by kernel_rfl) ((e15 K a0 s).symm ▸ h)
def p16_1 (v60 : Value) (K : Value → Store → Prop) (s61 : Store) (v8 : Value) (v30 : Value) (x22 : Value) (n20 : Value → Value → Store → Prop) : Prop :=
condH v60 (
K (.tuple #[(.pointer none), (.int .i64 4)]) s61) (
vop (nilV v8) s61 fun v62 s63 =>
vop (faddr 1 v62) s63 fun v64 s65 =>
vop (loadV false 1 v64 s61.get) s65 fun v66 _ =>
vop (faddr 0 v30) s65 fun v67 s68 =>
vop (loadV false 1 v67 s61.get) s68 fun v69 _ =>
vop (faddr 1 v30) s68 fun v70 s71 =>
vop (loadV true 1024 v70 s61.get) s71 fun v72 _ =>
eop (updH (.int .i64) v66 v69 v72 s71) fun _ s74 =>
vop (faddr 0 v30) s74 fun v75 s76 =>
vop (loadV false 1 v75 s76.get) s76 fun v77 s78 =>
vop (binI .add x22 (.int .i64 1)) s78 fun v79 s80 =>
n20 v77 v79 s80)
def p16_2 (v34 : Value) (s35 : Store) (x21 : Value) (K : Value → Store → Prop) (v30 : Value) (v0 : Value) (v8 : Value) (x22 : Value) (n20 : Value → Value → Store → Prop) : Prop :=
vop (loadV false 1 v34 s35.get) s35 fun v36 s37 =>
vop (binI .leq v36 x21) s37 fun v38 s39 =>
gop v38 false s39 (fun K => vop (faddr 0 v30) s39 K) fun v40 s41 =>
gop v38 false s41 (fun K => vop (loadV false 1 v40 s41.get) s41 K) fun v42 s43 =>
gop v38 false s43 (fun K => vop (faddr 0 v0) s43 K) fun v44 s45 =>
gop v38 false s45 (fun K => vop (loadV false 1 v44 s45.get) s45 K) fun v46 s47 =>
gop v38 false s47 (fun K => vop (binI .geq v42 v46) s47 K) fun v48 s49 =>
vop (pickV v38 (.bool true) v48) s49 fun v50 s51 =>
gop v50 false s51 (fun K => vop (faddr 1 v30) s51 K) fun v52 s53 =>
gop v50 false s53 (fun K => vop (loadV true 1024 v52 s53.get) s53 K) fun v54 s55 =>
gop v50 false s55 (fun K => vop (aggOf (buildL (List.replicate 1024 (unrle [(1, (.int .u8 0))])) [])) s55 K) fun v56 s57 =>
gop v50 false s57 (fun K => vop (eqA (.ints .u8 1024) false v54 v56) s57 K) fun v58 s59 =>
vop (pickV v50 (.bool true) v58) s59 fun v60 s61 =>
p16_1 v60 K s61 v8 v30 x22 n20
def p16_3 (v12 : Value) (K : Value → Store → Prop) (s13 : Store) (v0 : Value) (v8 : Value) : Prop :=
condH v12 (
K (.tuple #[(.pointer none), (.int .i64 4)]) s13) (
vop (faddr 1 v0) s13 fun v14 s15 =>
vop (loadV false 1 v14 s15.get) s15 fun v16 s17 =>
vop (lenSl v16) s17 fun v18 s19 =>
lop 2 (fun (n20 : Value → Value → Store → Prop) x21 x22 s23 =>
vop (binI .lss x22 v18) s23 fun v24 s25 =>
condH v24 (
vop (iaddrS 1025 v16 x22) s25 fun v26 s27 =>
vop (loadV true 1025 v26 s27.get) s27 fun v28 s29 =>
nop (some (.cells (unrle [(1, (.int .i64 0)), (1024, (.int .u8 0))]) none, ptrTo)) s29 fun v30 s31 =>
eop (storeV 1025 v30 v28 s31) fun _ s33 =>
vop (faddr 0 v30) s33 fun v34 s35 =>
p16_2 v34 s35 x21 K v30 v0 v8 x22 n20) (
K (.tuple #[v8, (.int .i64 0)]) s25)) (.int .i64 (-1)) (.int .i64 0) s19)
/-- undercroft/disk.Load -/
def p16 (K : Value → Store → Prop) (a0 : Value) (s : Store) : Prop :=
nop (boxN a0) s fun v0 s1 =>
vop (faddr 0 v0) s1 fun v2 s3 =>
vop (loadV false 1 v2 s3.get) s3 fun v4 s5 =>
Does Try.prog 6 [v4] s5 fun v6 s7 =>
vop (extractV v6 0) s7 fun v8 s9 =>
vop (extractV v6 1) s9 fun v10 s11 =>
vop (binI .neq v10 (.int .i64 0)) s11 fun v12 s13 =>
p16_3 v12 K s13 v0 v8
theorem e16 (K : Value → Store → Prop) (a0 : Value) (s : Store) : bodyT Try.prog Try.f16 [a0] s K = p16 K a0 s := by kernel_rfl
theorem d16 {K : Value → Store → Prop} {a0 : Value} {s : Store} (h : p16 K a0 s) : Does Try.prog 16 [a0] s K := does_of_print Try.func16 (by kernel_rfl) ((e16 K a0 s).symm ▸ h)
/-- undercroft/undercroftref05.At -/
def p17 (K : Value → Store → Prop) (a0 a1 : Value) (s : Store) : Prop :=
nop (boxN a0) s fun v0 s1 =>
nop (some (.cells (unrle [(1024, (.int .u8 0))]) none, ptrTo)) s1 fun v2 s3 =>
lop 1 (fun (n4 : Value → Store → Prop) x5 s6 =>
vop (faddr 1 v0) s6 fun v7 s8 =>
vop (loadV false 1 v7 s8.get) s8 fun v9 s10 =>
vop (lenSl v9) s10 fun v11 s12 =>
vop (binI .lss x5 v11) s12 fun v13 s14 =>
condH v13 (
vop (faddr 1 v0) s14 fun v15 s16 =>
vop (loadV false 1 v15 s16.get) s16 fun v17 s18 =>
vop (iaddrS 1025 v17 x5) s18 fun v19 s20 =>
vop (faddr 0 v19) s20 fun v21 s22 =>
vop (loadV false 1 v21 s22.get) s22 fun v23 s24 =>
vop (binI .eql v23 a1) s24 fun v25 s26 =>
condH v25 (
vop (faddr 1 v0) s26 fun v27 s28 =>
vop (loadV false 1 v27 s28.get) s28 fun v29 s30 =>
vop (iaddrS 1025 v29 x5) s30 fun v31 s32 =>
vop (faddr 1 v31) s32 fun v33 s34 =>
vop (loadV true 1024 v33 s34.get) s34 fun v35 s36 =>
eop (storeV 1024 v2 v35 s36) fun _ s38 =>
vop (loadV true 1024 v2 s38.get) s38 fun v39 _ =>
K v39 s38) (
vop (binI .add x5 (.int .i64 1)) s26 fun v40 s41 =>
n4 v40 s41)) (
vop (aggOf (buildL (List.replicate 1024 (unrle [(1, (.int .u8 0))])) [])) s14 fun v42 s43 =>
eop (storeV 1024 v2 v42 s43) fun _ s45 =>
vop (loadV true 1024 v2 s45.get) s45 fun v46 _ =>
K v46 s45)) (.int .i64 0) s3
theorem e17 (K : Value → Store → Prop) (a0 a1 : Value) (s : Store) : bodyT Try.prog Try.f17 [a0, a1] s K = p17 K a0 a1 s := by kernel_rfl
theorem d17 {K : Value → Store → Prop} {a0 a1 : Value} {s : Store} (h : p17 K a0 a1 s) : Does Try.prog 17 [a0, a1] s K := does_of_print Try.func17 (by kernel_rfl) ((e17 K a0 a1 s).symm ▸ h)
/-- (*undercroft/disk.Disk).Image -/
def p18 (K : Value → Store → Prop) (a0 : Value) (s : Store) : Prop :=
nop (some (.cells (unrle [(1, (.int .i64 0)), (1, (.slice none 0 0))]) none, ptrTo)) s fun v0 s1 =>
Does Try.prog 30 [a0] s1 fun v2 s3 =>
vop (unV .not v2) s3 fun v4 s5 =>
condH v4 (
vop (aggOf (buildL [(unrle [(1, (.int .i64 0))]), (unrle [(1, (.slice none 0 0))])] [])) s5 fun v6 s7 =>
eop (storeV 2 v0 v6 s7) fun _ s9 =>
vop (loadV true 2 v0 s9.get) s9 fun v10 _ =>
K v10 s9) (
vop (nilV a0) s5 fun v11 s12 =>
vop (faddr 0 v11) s12 fun v13 s14 =>
vop (loadV false 1 v13 s14.get) s14 fun v15 s16 =>
vop (aggOf (buildL [(unrle [(1, (.int .i64 0))]), (unrle [(1, (.slice none 0 0))])] [(0, v15)])) s16 fun v17 s18 =>
nop (some (.cells (unrle [(1, (.int .i64 0)), (1, (.slice none 0 0))]) none, ptrTo)) s18 fun v19 s20 =>
eop (storeV 2 v19 v17 s20) fun _ s22 =>
vop (nilV a0) s22 fun v23 s24 =>
vop (faddr 1 v23) s24 fun v25 s26 =>
vop (loadV false 1 v25 s26.get) s26 fun v27 s28 =>
eop (rangeH v27 s28) fun v29 s30 =>
lop 0 (fun (n31 : Store → Prop) s32 =>
pop (nextL v29 s32) fun v33 s34 =>
vop (extractV v33 0) s34 fun v35 s36 =>
condH v35 (
vop (entryL v29 s36.get) s36 fun v37 s38 =>
vop (extractV v37 0) s38 fun v39 s40 =>
vop (extractV v37 1) s40 fun v41 s42 =>
nop (some (.cells (unrle [(1024, (.int .u8 0))]) none, ptrTo)) s42 fun v43 s44 =>
eop (storeV 1024 v43 v41 s44) fun _ s46 =>
vop (faddr 1 v19) s46 fun v47 s48 =>
vop (loadV false 1 v47 s48.get) s48 fun v49 s50 =>
vop (loadV true 1024 v43 s50.get) s50 fun v51 s52 =>
vop (aggOf (buildL [(unrle [(1, (.int .i64 0))]), (unrle [(1024, (.int .u8 0))])] [(0, v39), (1, v51)])) s52 fun v53 s54 =>
nop (sliceOf 1 (buildL (List.replicate 1 (unrle [(1, (.int .i64 0)), (1024, (.int .u8 0))])) [(0, v53)])) s54 fun v55 s56 =>
eop (appendV 1025 1032 v49 v55 s56) fun v57 s58 =>
vop (faddr 1 v19) s58 fun v59 s60 =>
eop (storeV 1 v59 v57 s60) fun _ s62 =>
n31 s62) (
vop (faddr 1 v19) s36 fun v63 s64 =>
vop (loadV false 1 v63 s64.get) s64 fun v65 s66 =>
Does Try.prog 33 [(.iface 37 v65), (.func (.func 34) #[] #[v19])] s66 fun _ s68 =>
vop (loadV true 2 v19 s68.get) s68 fun v69 s70 =>
eop (storeV 2 v0 v69 s70) fun _ s72 =>
vop (loadV true 2 v0 s72.get) s72 fun v73 _ =>
K v73 s72)) s30)
theorem e18 (K : Value → Store → Prop) (a0 : Value) (s : Store) : bodyT Try.prog Try.f18 [a0] s K = p18 K a0 s := by kernel_rfl
theorem d18 {K : Value → Store → Prop} {a0 : Value} {s : Store} (h : p18 K a0 s) : DoesD Try.prog 18 [a0] s K := doesD_of_print Try.func18 (by kernel_rfl) ((e18 K a0 s).symm ▸ h)
/-- undercroft/undercroftlaw23.sameImage -/
def p19 (K : Value → Store → Prop) (a0 a1 : Value) (s : Store) : Prop :=
nop (boxN a0) s fun v0 s1 =>
nop (boxN a1) s1 fun v2 s3 =>
vop (faddr 0 v0) s3 fun v4 s5 =>
vop (loadV false 1 v4 s5.get) s5 fun v6 s7 =>
vop (faddr 0 v2) s7 fun v8 s9 =>
vop (loadV false 1 v8 s9.get) s9 fun v10 s11 =>
vop (binI .eql v6 v10) s11 fun v12 s13 =>
gop v12 true s13 (fun K => vop (faddr 1 v0) s13 K) fun v14 s15 =>
gop v12 true s15 (fun K => vop (loadV false 1 v14 s15.get) s15 K) fun v16 s17 =>
gop v12 true s17 (fun K => vop (faddr 1 v2) s17 K) fun v18 s19 =>
gop v12 true s19 (fun K => vop (loadV false 1 v18 s19.get) s19 K) fun v20 s21 =>
gop v12 true s21 (fun K => Does Try.prog 35 [v16, v20] s21 K) fun v22 s23 =>
vop (pickV v12 v22 (.bool false)) s23 fun v24 s25 =>
K v24 s25
theorem e19 (K : Value → Store → Prop) (a0 a1 : Value) (s : Store) : bodyT Try.prog Try.f19 [a0, a1] s K = p19 K a0 a1 s := by kernel_rfl
theorem d19 {K : Value → Store → Prop} {a0 a1 : Value} {s : Store} (h : p19 K a0 a1 s) : Does Try.prog 19 [a0, a1] s K := does_of_print Try.func19 (by kernel_rfl) ((e19 K a0 a1 s).symm ▸ h)
/-- undercroft/undercroftkit.Pick -/
def p20 (K : Value → Store → Prop) (a0 a1 : Value) (s : Store) : Prop :=
vop (binI .rem a0 a1) s fun v0 s1 =>
jop 1 (fun (k2 : Value → Store → Prop) =>
vop (binI .lss v0 (.int .i64 0)) s1 fun v3 s4 =>
condH v3 (
vop (binI .add v0 a1) s4 fun v5 s6 =>
k2 v5 s6) (
k2 v0 s4)) fun x7 s8 =>
K x7 s8
theorem e20 (K : Value → Store → Prop) (a0 a1 : Value) (s : Store) : bodyT Try.prog Try.f20 [a0, a1] s K = p20 K a0 a1 s := by kernel_rfl
theorem d20 {K : Value → Store → Prop} {a0 a1 : Value} {s : Store} (h : p20 K a0 a1 s) : Does Try.prog 20 [a0, a1] s K := does_of_print Try.func20 (by kernel_rfl) ((e20 K a0 a1 s).symm ▸ h)
/-- (*undercroft/disk.Disk).Len -/
def p21 (K : Value → Store → Prop) (a0 : Value) (s : Store) : Prop :=
Does Try.prog 30 [a0] s fun v0 s1 =>
vop (unV .not v0) s1 fun v2 s3 =>
condH v2 (
K (.int .i64 0) s3) (
vop (nilV a0) s3 fun v4 s5 =>
vop (faddr 0 v4) s5 fun v6 s7 =>
vop (loadV false 1 v6 s7.get) s7 fun v8 s9 =>
K v8 s9)
theorem e21 (K : Value → Store → Prop) (a0 : Value) (s : Store) : bodyT Try.prog Try.f21 [a0] s K = p21 K a0 s := by kernel_rfl
theorem d21 {K : Value → Store → Prop} {a0 : Value} {s : Store} (h : p21 K a0 s) : Does Try.prog 21 [a0] s K := does_of_print Try.func21 (by kernel_rfl) ((e21 K a0 s).symm ▸ h)
def p22_1 (v65 : Value) (s122 : Store) (v0 : Value) (v2 : Value) (K : Value → Store → Prop) : Prop :=
vop (faddr 8 v65) s122 fun v123 s124 =>
vop (loadV false 1 v123 s124.get) s124 fun v125 s126 =>
vop (faddr 0 v0) s126 fun v127 s128 =>
vop (loadV false 1 v127 s128.get) s128 fun v129 s130 =>
vop (binI .geq v125 v129) s130 fun v131 s132 =>
condH v131 (
vop (aggOf (buildL [(unrle [(3, (.int .i64 0))]), (unrle [(1, (.int .i64 0))]), (unrle [(1, (.int .i64 0))]), (unrle [(1, (.int .i64 0))]), (unrle [(1, (.int .i64 0))]), (unrle [(1, (.int .i64 0))]), (unrle [(1, (.int .i64 0))])] [])) s132 fun v133 s134 =>
eop (storeV 9 v2 v133 s134) fun _ s136 =>
vop (loadV true 9 v2 s136.get) s136 fun v137 _ =>
K (.tuple #[v137, (.int .i64 2)]) s136) (
vop (loadV true 9 v65 s132.get) s132 fun v138 s139 =>
eop (storeV 9 v2 v138 s139) fun _ s141 =>
vop (loadV true 9 v2 s141.get) s141 fun v142 _ =>
K (.tuple #[v142, (.int .i64 0)]) s141)
def p22_2 (v95 : Value) (s96 : Store) (v65 : Value) (v0 : Value) (v2 : Value) (K : Value → Store → Prop) : Prop :=
vop (loadV false 1 v95 s96.get) s96 fun v97 s98 =>
vop (binI .add v97 (.int .i64 8192)) s98 fun v99 s100 =>
vop (binI .sub v99 (.int .i64 1)) s100 fun v101 s102 =>
vop (binI .quo v101 (.int .i64 8192)) s102 fun v103 s104 =>
vop (faddr 7 v65) s104 fun v105 s106 =>
eop (storeV 1 v105 v103 s106) fun _ s108 =>
vop (faddr 6 v65) s108 fun v109 s110 =>
vop (loadV false 1 v109 s110.get) s110 fun v111 s112 =>
vop (faddr 7 v65) s112 fun v113 s114 =>
vop (loadV false 1 v113 s114.get) s114 fun v115 s116 =>
vop (binI .add v111 v115) s116 fun v117 s118 =>
vop (faddr 8 v65) s118 fun v119 s120 =>
eop (storeV 1 v119 v117 s120) fun _ s122 =>
p22_1 v65 s122 v0 v2 K
def p22_3 (v69 : Value) (s70 : Store) (v65 : Value) (v0 : Value) (v2 : Value) (K : Value → Store → Prop) : Prop :=
vop (loadV false 1 v69 s70.get) s70 fun v71 s72 =>
vop (binI .add v71 (.int .i64 16)) s72 fun v73 s74 =>
vop (binI .quo v73 (.int .i64 16)) s74 fun v75 s76 =>
vop (faddr 5 v65) s76 fun v77 s78 =>
eop (storeV 1 v77 v75 s78) fun _ s80 =>
vop (faddr 4 v65) s80 fun v81 s82 =>
vop (loadV false 1 v81 s82.get) s82 fun v83 s84 =>
vop (faddr 5 v65) s84 fun v85 s86 =>
vop (loadV false 1 v85 s86.get) s86 fun v87 s88 =>
vop (binI .add v83 v87) s88 fun v89 s90 =>
vop (faddr 6 v65) s90 fun v91 s92 =>
eop (storeV 1 v91 v89 s92) fun _ s94 =>
vop (faddr 0 v0) s94 fun v95 s96 =>
p22_2 v95 s96 v65 v0 v2 K
def p22_4 (v48 : Value) (s49 : Store) (v2 : Value) (K : Value → Store → Prop) (v0 : Value) : Prop :=
condH v48 (
vop (aggOf (buildL [(unrle [(3, (.int .i64 0))]), (unrle [(1, (.int .i64 0))]), (unrle [(1, (.int .i64 0))]), (unrle [(1, (.int .i64 0))]), (unrle [(1, (.int .i64 0))]), (unrle [(1, (.int .i64 0))]), (unrle [(1, (.int .i64 0))])] [])) s49 fun v50 s51 =>
eop (storeV 9 v2 v50 s51) fun _ s53 =>
vop (loadV true 9 v2 s53.get) s53 fun v54 _ =>
K (.tuple #[v54, (.int .i64 2)]) s53) (
vop (loadV true 3 v0 s49.get) s49 fun v55 s56 =>
vop (faddr 1 v0) s56 fun v57 s58 =>
vop (loadV false 1 v57 s58.get) s58 fun v59 s60 =>
vop (binI .add (.int .i64 1) v59) s60 fun v61 s62 =>
vop (aggOf (buildL [(unrle [(3, (.int .i64 0))]), (unrle [(1, (.int .i64 0))]), (unrle [(1, (.int .i64 0))]), (unrle [(1, (.int .i64 0))]), (unrle [(1, (.int .i64 0))]), (unrle [(1, (.int .i64 0))]), (unrle [(1, (.int .i64 0))])] [(0, v55), (1, (.int .i64 1)), (2, v61)])) s62 fun v63 s64 =>
nop (some (.cells (unrle [(9, (.int .i64 0))]) none, ptrTo)) s64 fun v65 s66 =>
eop (storeV 9 v65 v63 s66) fun _ s68 =>
vop (faddr 2 v0) s68 fun v69 s70 =>
p22_3 v69 s70 v65 v0 v2 K)
def p22_5 (v16 : Value) (v22 : Value) (s23 : Store) (K : Value → Store → Prop) (v0 : Value) (v2 : Value) : Prop :=
vop (pickV v16 (.bool true) v22) s23 fun v24 s25 =>
gop v24 false s25 (fun K => vop (faddr 2 v0) s25 K) fun v26 s27 =>
gop v24 false s27 (fun K => vop (loadV false 1 v26 s27.get) s27 K) fun v28 s29 =>
gop v24 false s29 (fun K => vop (binI .gtr v28 (.int .i64 65535)) s29 K) fun v30 s31 =>
vop (pickV v24 (.bool true) v30) s31 fun v32 s33 =>
gop v32 false s33 (fun K => vop (faddr 0 v0) s33 K) fun v34 s35 =>
gop v32 false s35 (fun K => vop (loadV false 1 v34 s35.get) s35 K) fun v36 s37 =>
gop v32 false s37 (fun K => vop (binI .lss v36 (.int .i64 1)) s37 K) fun v38 s39 =>
vop (pickV v32 (.bool true) v38) s39 fun v40 s41 =>
gop v40 false s41 (fun K => vop (faddr 0 v0) s41 K) fun v42 s43 =>
gop v40 false s43 (fun K => vop (loadV false 1 v42 s43.get) s43 K) fun v44 s45 =>
gop v40 false s45 (fun K => vop (binI .gtr v44 (.int .i64 1048576)) s45 K) fun v46 s47 =>
vop (pickV v40 (.bool true) v46) s47 fun v48 s49 =>
p22_4 v48 s49 v2 K v0
/-- undercroft/shape.Of -/
def p22 (K : Value → Store → Prop) (a0 : Value) (s : Store) : Prop :=
nop (boxN a0) s fun v0 s1 =>
nop (some (.cells (unrle [(9, (.int .i64 0))]) none, ptrTo)) s1 fun v2 s3 =>
vop (faddr 1 v0) s3 fun v4 s5 =>
vop (loadV false 1 v4 s5.get) s5 fun v6 s7 =>
vop (binI .lss v6 (.int .i64 32)) s7 fun v8 s9 =>
gop v8 false s9 (fun K => vop (faddr 1 v0) s9 K) fun v10 s11 =>
gop v8 false s11 (fun K => vop (loadV false 1 v10 s11.get) s11 K) fun v12 s13 =>
gop v8 false s13 (fun K => vop (binI .gtr v12 (.int .i64 256)) s13 K) fun v14 s15 =>
vop (pickV v8 (.bool true) v14) s15 fun v16 s17 =>
gop v16 false s17 (fun K => vop (faddr 2 v0) s17 K) fun v18 s19 =>
gop v16 false s19 (fun K => vop (loadV false 1 v18 s19.get) s19 K) fun v20 s21 =>
gop v16 false s21 (fun K => vop (binI .lss v20 (.int .i64 1)) s21 K) fun v22 s23 =>
p22_5 v16 v22 s23 K v0 v2
theorem e22 (K : Value → Store → Prop) (a0 : Value) (s : Store) : bodyT Try.prog Try.f22 [a0] s K = p22 K a0 s := by kernel_rfl
theorem d22 {K : Value → Store → Prop} {a0 : Value} {s : Store} (h : p22 K a0 s) : Does Try.prog 22 [a0] s K := does_of_print Try.func22 (by kernel_rfl) ((e22 K a0 s).symm ▸ h)
/-- (*undercroft/disk.Disk).Stopped -/
def p23 (K : Value → Store → Prop) (a0 : Value) (s : Store) : Prop :=
Does Try.prog 30 [a0] s fun v0 s1 =>
gop v0 true s1 (fun K => K a0 s1) fun v2 s3 =>
gop v0 true s3 (fun K => vop (nilV v2) s3 K) fun v4 s5 =>
gop v0 true s5 (fun K => vop (faddr 6 v4) s5 K) fun v6 s7 =>
gop v0 true s7 (fun K => vop (loadV false 1 v6 s7.get) s7 K) fun v8 s9 =>
vop (pickV v0 v8 (.bool false)) s9 fun v10 s11 =>
K v10 s11
theorem e23 (K : Value → Store → Prop) (a0 : Value) (s : Store) : bodyT Try.prog Try.f23 [a0] s K = p23 K a0 s := by kernel_rfl
theorem d23 {K : Value → Store → Prop} {a0 : Value} {s : Store} (h : p23 K a0 s) : Does Try.prog 23 [a0] s K := does_of_print Try.func23 (by kernel_rfl) ((e23 K a0 s).symm ▸ h)
def p24_1 (v82 : Value) (v77 : Value) (x80 : Value) (s83 : Store) (v23 : Value) (n79 : Value → Store → Prop) (v2 : Value) (K : Value → Store → Prop) : Prop :=
condH v82 (
vop (indexA false 1 9 v77 x80) s83 fun v84 s85 =>
vop (loadV true 1024 v23 s85.get) s85 fun v86 s87 =>
vop (binI .mul (.int .i64 4) x80) s87 fun v88 s89 =>
vop (binI .add (.int .i64 8) v88) s89 fun v90 s91 =>
vop (convI .u32 v84) s91 fun v92 s93 =>
Does Try.prog 38 [v86, v90, v92] s93 fun v94 s95 =>
eop (storeV 1024 v23 v94 s95) fun _ s97 =>
vop (binI .add x80 (.int .i64 1)) s97 fun v98 s99 =>
n79 v98 s99) (
vop (loadV true 1024 v23 s83.get) s83 fun v100 s101 =>
eop (storeV 1024 v2 v100 s101) fun _ s103 =>
vop (loadV true 1024 v2 s103.get) s103 fun v104 _ =>
K (.tuple #[v104, (.int .i64 0)]) s103)
def p24_2 (v55 : Value) (s56 : Store) (v0 : Value) (v37 : Value) (v41 : Value) (v45 : Value) (v49 : Value) (v53 : Value) (v23 : Value) (v2 : Value) (K : Value → Store → Prop) : Prop :=
vop (loadV false 1 v55 s56.get) s56 fun v57 s58 =>
vop (faddr 6 v0) s58 fun v59 s60 =>
vop (loadV false 1 v59 s60.get) s60 fun v61 s62 =>
vop (faddr 7 v0) s62 fun v63 s64 =>
vop (loadV false 1 v63 s64.get) s64 fun v65 s66 =>
vop (faddr 8 v0) s66 fun v67 s68 =>
vop (loadV false 1 v67 s68.get) s68 fun v69 s70 =>
vop (aggOf (buildL (List.replicate 9 (unrle [(1, (.int .i64 0))])) [(0, v37), (1, v41), (2, v45), (3, v49), (4, v53), (5, v57), (6, v61), (7, v65), (8, v69)])) s70 fun v71 s72 =>
nop (some (.cells (unrle [(9, (.int .i64 0))]) none, ptrTo)) s72 fun v73 s74 =>
eop (storeV 9 v73 v71 s74) fun _ s76 =>
vop (loadV true 9 v73 s76.get) s76 fun v77 s78 =>
lop 1 (fun (n79 : Value → Store → Prop) x80 s81 =>
vop (binI .lss x80 (.int .i64 9)) s81 fun v82 s83 =>
p24_1 v82 v77 x80 s83 v23 n79 v2 K) (.int .i64 0) s78
def p24_3 (s30 : Store) (v29 : Value) (v0 : Value) (v23 : Value) (v2 : Value) (K : Value → Store → Prop) : Prop :=
nop (some (.cells (unrle [(3, (.int .i64 0))]) none, ptrTo)) s30 fun v31 s32 =>
eop (storeV 3 v31 v29 s32) fun _ s34 =>
vop (faddr 0 v31) s34 fun v35 s36 =>
vop (loadV false 1 v35 s36.get) s36 fun v37 s38 =>
vop (faddr 1 v31) s38 fun v39 s40 =>
vop (loadV false 1 v39 s40.get) s40 fun v41 s42 =>
vop (faddr 2 v31) s42 fun v43 s44 =>
vop (loadV false 1 v43 s44.get) s44 fun v45 s46 =>
vop (faddr 3 v0) s46 fun v47 s48 =>
vop (loadV false 1 v47 s48.get) s48 fun v49 s50 =>
vop (faddr 4 v0) s50 fun v51 s52 =>
vop (loadV false 1 v51 s52.get) s52 fun v53 s54 =>
vop (faddr 5 v0) s54 fun v55 s56 =>
p24_2 v55 s56 v0 v37 v41 v45 v49 v53 v23 v2 K
def p24_4 (v8 : Value) (s9 : Store) (v2 : Value) (K : Value → Store → Prop) (v0 : Value) : Prop :=
condH v8 (
vop (aggOf (buildL (List.replicate 1024 (unrle [(1, (.int .u8 0))])) [])) s9 fun v10 s11 =>
eop (storeV 1024 v2 v10 s11) fun _ s13 =>
vop (loadV true 1024 v2 s13.get) s13 fun v14 _ =>
K (.tuple #[v14, (.int .i64 2)]) s13) (
vop (aggOf (buildL (List.replicate 1024 (unrle [(1, (.int .u8 0))])) [])) s9 fun v15 s16 =>
nop (sliceOf 8 (buildL (List.replicate 8 (unrle [(1, (.int .u8 0))])) [(0, (.int .u8 99)), (1, (.int .u8 114)), (2, (.int .u8 111)), (3, (.int .u8 102)), (4, (.int .u8 116)), (5, (.int .u8 102)), (6, (.int .u8 115)), (7, (.int .u8 49))])) s16 fun v17 s18 =>
eop (handV v17 s18) fun v19 s20 =>
Does Try.prog 37 [v15, (.int .i64 0), v19] s20 fun v21 s22 =>
nop (some (.cells (unrle [(1024, (.int .u8 0))]) none, ptrTo)) s22 fun v23 s24 =>
eop (storeV 1024 v23 v21 s24) fun _ s26 =>
vop (faddr 0 v0) s26 fun v27 s28 =>
vop (loadV true 3 v27 s28.get) s28 fun v29 s30 =>
p24_3 s30 v29 v0 v23 v2 K)
/-- undercroft/shape.Encode -/
def p24 (K : Value → Store → Prop) (a0 : Value) (s : Store) : Prop :=
nop (boxN a0) s fun v0 s1 =>
nop (some (.cells (unrle [(1024, (.int .u8 0))]) none, ptrTo)) s1 fun v2 s3 =>
vop (loadV true 9 v0 s3.get) s3 fun v4 s5 =>
Does Try.prog 36 [v4] s5 fun v6 s7 =>
vop (unV .not v6) s7 fun v8 s9 =>
p24_4 v8 s9 v2 K v0
theorem e24 (K : Value → Store → Prop) (a0 : Value) (s : Store) : bodyT Try.prog Try.f24 [a0] s K = p24 K a0 s := by kernel_rfl
theorem d24 {K : Value → Store → Prop} {a0 : Value} {s : Store} (h : p24 K a0 s) : Does Try.prog 24 [a0] s K := does_of_print Try.func24 (by kernel_rfl) ((e24 K a0 s).symm ▸ h)
/-- (*undercroft/disk.Disk).Claim -/
def p25 (K : Value → Store → Prop) (a0 : Value) (s : Store) : Prop :=
Does Try.prog 31 [a0] s fun v0 s1 =>
vop (binI .neq v0 (.int .i64 0)) s1 fun v2 s3 =>
condH v2 (
K (.int .i64 0) s3) (
vop (nilV a0) s3 fun v4 s5 =>
vop (faddr 9 v4) s5 fun v6 s7 =>
vop (loadV false 1 v6 s7.get) s7 fun v8 s9 =>
vop (binI .add v8 (.int .i64 1)) s9 fun v10 s11 =>
vop (nilV a0) s11 fun v12 s13 =>
vop (faddr 9 v12) s13 fun v14 s15 =>
eop (storeV 1 v14 v10 s15) fun _ s17 =>
vop (nilV a0) s17 fun v18 s19 =>
vop (faddr 9 v18) s19 fun v20 s21 =>
vop (loadV false 1 v20 s21.get) s21 fun v22 s23 =>
vop (nilV a0) s23 fun v24 s25 =>
vop (faddr 10 v24) s25 fun v26 s27 =>
eop (storeV 1 v26 v22 s27) fun _ s29 =>
vop (nilV a0) s29 fun v30 s31 =>
vop (faddr 10 v30) s31 fun v32 s33 =>
vop (loadV false 1 v32 s33.get) s33 fun v34 s35 =>
K v34 s35)
theorem e25 (K : Value → Store → Prop) (a0 : Value) (s : Store) : bodyT Try.prog Try.f25 [a0] s K = p25 K a0 s := by kernel_rfl
theorem d25 {K : Value → Store → Prop} {a0 : Value} {s : Store} (h : p25 K a0 s) : Does Try.prog 25 [a0] s K := does_of_print Try.func25 (by kernel_rfl) ((e25 K a0 s).symm ▸ h)
/-- undercroft/mkfs.lay -/
def p26 (K : Value → Store → Prop) (a0 a1 : Value) (s : Store) : Prop :=
vop (lenSl a1) s fun v0 s1 =>
lop 1 (fun (n2 : Value → Store → Prop) x3 s4 =>
vop (binI .lss x3 v0) s4 fun v5 s6 =>
condH v5 (
vop (iaddrS 2 a1 x3) s6 fun v7 s8 =>
vop (loadV true 2 v7 s8.get) s8 fun v9 s10 =>
nop (some (.cells (unrle [(1, (.int .i64 0)), (1, (.slice none 0 0))]) none, ptrTo)) s10 fun v11 s12 =>
eop (storeV 2 v11 v9 s12) fun _ s14 =>
vop (faddr 1 v11) s14 fun v15 s16 =>
vop (loadV false 1 v15 s16.get) s16 fun v17 s18 =>
vop (lenSl v17) s18 fun v19 s20 =>
lop 1 (fun (n21 : Value → Store → Prop) x22 s23 =>
vop (binI .lss x22 v19) s23 fun v24 s25 =>
condH v24 (
vop (iaddrS 1024 v17 x22) s25 fun v26 s27 =>
vop (loadV true 1024 v26 s27.get) s27 fun v28 s29 =>
nop (some (.cells (unrle [(1024, (.int .u8 0))]) none, ptrTo)) s29 fun v30 s31 =>
eop (storeV 1024 v30 v28 s31) fun _ s33 =>
vop (faddr 0 v11) s33 fun v34 s35 =>
vop (loadV false 1 v34 s35.get) s35 fun v36 s37 =>
vop (binI .add v36 x22) s37 fun v38 s39 =>
vop (loadV true 1024 v30 s39.get) s39 fun v40 s41 =>
Does Try.prog 39 [a0, v38, v40] s41 fun v42 s43 =>
vop (binI .neq v42 (.int .i64 0)) s43 fun v44 s45 =>
condH v44 (
K (.int .i64 3) s45) (
vop (binI .add x22 (.int .i64 1)) s45 fun v46 s47 =>
n21 v46 s47)) (
vop (binI .add x3 (.int .i64 1)) s25 fun v48 s49 =>
n2 v48 s49)) (.int .i64 0) s20) (
Does Try.prog 40 [a0] s6 fun v50 s51 =>
vop (binI .neq v50 (.int .i64 0)) s51 fun v52 s53 =>
condH v52 (
K (.int .i64 3) s53) (
K (.int .i64 0) s53))) (.int .i64 0) s1
theorem e26 (K : Value → Store → Prop) (a0 a1 : Value) (s : Store) : bodyT Try.prog Try.f26 [a0, a1] s K = p26 K a0 a1 s := by kernel_rfl
theorem d26 {K : Value → Store → Prop} {a0 a1 : Value} {s : Store} (h : p26 K a0 a1 s) : Does Try.prog 26 [a0, a1] s K := does_of_print Try.func26 (by kernel_rfl) ((e26 K a0 a1 s).symm ▸ h)
def p27_1 (v69 : Value) (v64 : Value) (x67 : Value) (s70 : Store) (v62 : Value) (n66 : Value → Store → Prop) (v43 : Value) (x50 : Value) (n49 : Value → Store → Prop) : Prop :=
condH v69 (
vop (indexA true 64 16 v64 x67) s70 fun v71 s72 =>
nop (some (.cells (unrle [(64, (.int .u8 0))]) none, ptrTo)) s72 fun v73 s74 =>
eop (storeV 64 v73 v71 s74) fun _ s76 =>
vop (binI .mul x67 (.int .i64 64)) s76 fun v77 s78 =>
vop (sliceAr 1024 1 v62 (some v77) none) s78 fun v79 s80 =>
vop (sliceAr 64 1 v73 none none) s80 fun v81 s82 =>
eop (copyV 1 v79 v81 s82) fun _ s84 =>
vop (binI .add x67 (.int .i64 1)) s84 fun v85 s86 =>
n66 v85 s86) (
vop (faddr 1 v43) s70 fun v87 s88 =>
vop (loadV false 1 v87 s88.get) s88 fun v89 s90 =>
vop (loadV true 1024 v62 s90.get) s90 fun v91 s92 =>
nop (sliceOf 1 (buildL (List.replicate 1 (unrle [(1024, (.int .u8 0))])) [(0, v91)])) s92 fun v93 s94 =>
eop (appendV 1024 1024 v89 v93 s94) fun v95 s96 =>
vop (faddr 1 v43) s96 fun v97 s98 =>
eop (storeV 1 v97 v95 s98) fun _ s100 =>
vop (binI .add x50 (.int .i64 1)) s100 fun v101 s102 =>
n49 v101 s102)
def p27_2 (v52 : Value) (v8 : Value) (x50 : Value) (s53 : Store) (v43 : Value) (n49 : Value → Store → Prop) (v2 : Value) (K : Value → Store → Prop) : Prop :=
condH v52 (
vop (iaddrS 1024 v8 x50) s53 fun v54 s55 =>
vop (loadV true 1024 v54 s55.get) s55 fun v56 s57 =>
nop (some (.cells (unrle [(1024, (.int .u8 0))]) none, ptrTo)) s57 fun v58 s59 =>
eop (storeV 1024 v58 v56 s59) fun _ s61 =>
nop (some (.cells (unrle [(1024, (.int .u8 0))]) none, ptrTo)) s61 fun v62 s63 =>
vop (loadV true 1024 v58 s63.get) s63 fun v64 s65 =>
lop 1 (fun (n66 : Value → Store → Prop) x67 s68 =>
vop (binI .lss x67 (.int .i64 16)) s68 fun v69 s70 =>
p27_1 v69 v64 x67 s70 v62 n66 v43 x50 n49) (.int .i64 0) s65) (
vop (loadV true 2 v43 s53.get) s53 fun v103 s104 =>
eop (storeV 2 v2 v103 s104) fun _ s106 =>
vop (loadV true 2 v2 s106.get) s106 fun v107 _ =>
K v107 s106)
def p27_3 (v12 : Value) (s27 : Store) (v8 : Value) (v0 : Value) (v2 : Value) (K : Value → Store → Prop) : Prop :=
vop (loadV true 16 v12 s27.get) s27 fun v28 _ =>
Does Try.prog 41 [v28] s27 fun v29 s30 =>
vop (iaddrS 1024 v8 (.int .i64 0)) s30 fun v31 s32 =>
vop (iaddrA 16 64 v31 (.int .i64 1)) s32 fun v33 s34 =>
eop (storeV 64 v33 v29 s34) fun _ s36 =>
vop (faddr 4 v0) s36 fun v37 s38 =>
vop (loadV false 1 v37 s38.get) s38 fun v39 s40 =>
vop (aggOf (buildL [(unrle [(1, (.int .i64 0))]), (unrle [(1, (.slice none 0 0))])] [(0, v39)])) s40 fun v41 s42 =>
nop (some (.cells (unrle [(1, (.int .i64 0)), (1, (.slice none 0 0))]) none, ptrTo)) s42 fun v43 s44 =>
eop (storeV 2 v43 v41 s44) fun _ s46 =>
vop (lenSl v8) s46 fun v47 s48 =>
lop 1 (fun (n49 : Value → Store → Prop) x50 s51 =>
vop (binI .lss x50 v47) s51 fun v52 s53 =>
p27_2 v52 v8 x50 s53 v43 n49 v2 K) (.int .i64 0) s48
def p27_4 (s1 : Store) (v0 : Value) (K : Value → Store → Prop) : Prop :=
nop (some (.cells (unrle [(1, (.int .i64 0)), (1, (.slice none 0 0))]) none, ptrTo)) s1 fun v2 s3 =>
vop (faddr 5 v0) s3 fun v4 s5 =>
vop (loadV false 1 v4 s5.get) s5 fun v6 s7 =>
nop (makeS (unrle [(1024, (.int .u8 0))]) 1024 v6 v6) s7 fun v8 s9 =>
vop (aggOf (buildL [(unrle [(1, (.int .u16 0))]), (unrle [(1, (.int .u16 0))]), (unrle [(1, (.int .u32 0))]), (unrle [(1, (.int .u32 0))]), (unrle [(10, (.int .u32 0))]), (unrle [(1, (.int .u32 0))]), (unrle [(1, (.int .u32 0))])] [(0, (.int .u16 2)), (1, (.int .u16 2)), (2, (.int .u32 32)), (3, (.int .u32 1))])) s9 fun v10 s11 =>
nop (some (.cells (unrle [(2, (.int .u16 0)), (14, (.int .u32 0))]) none, ptrTo)) s11 fun v12 s13 =>
eop (storeV 16 v12 v10 s13) fun _ s15 =>
vop (faddr 8 v0) s15 fun v16 s17 =>
vop (loadV false 1 v16 s17.get) s17 fun v18 s19 =>
vop (convI .u32 v18) s19 fun v20 s21 =>
vop (faddr 4 v12) s21 fun v22 s23 =>
vop (iaddrA 10 1 v22 (.int .i64 0)) s23 fun v24 s25 =>
eop (storeV 1 v24 v20 s25) fun _ s27 =>
p27_3 v12 s27 v8 v0 v2 K
/-- undercroft/mkfs.inodes -/
def p27 (K : Value → Store → Prop) (a0 : Value) (s : Store) : Prop :=
nop (boxN a0) s fun v0 s1 =>
p27_4 s1 v0 K
theorem e27 (K : Value → Store → Prop) (a0 : Value) (s : Store) : bodyT Try.prog Try.f27 [a0] s K = p27 K a0 s := by kernel_rfl
theorem d27 {K : Value → Store → Prop} {a0 : Value} {s : Store} (h : p27 K a0 s) : Does Try.prog 27 [a0] s K := does_of_print Try.func27 (by kernel_rfl) ((e27 K a0 s).symm ▸ h)
/-- undercroft/mkfs.bitmap -/
def p28 (K : Value → Store → Prop) (a0 : Value) (s : Store) : Prop :=
nop (boxN a0) s fun v0 s1 =>
nop (some (.cells (unrle [(1, (.int .i64 0)), (1, (.slice none 0 0))]) none, ptrTo)) s1 fun v2 s3 =>
vop (faddr 6 v0) s3 fun v4 s5 =>
vop (loadV false 1 v4 s3.get) s5 fun v6 _ =>
vop (faddr 7 v0) s5 fun v7 s8 =>
vop (loadV false 1 v7 s3.get) s8 fun v9 _ =>
nop (makeS (unrle [(1024, (.int .u8 0))]) 1024 v9 v9) s8 fun v10 s11 =>
vop (aggOf (buildL [(unrle [(1, (.int .i64 0))]), (unrle [(1, (.slice none 0 0))])] [(0, v6), (1, v10)])) s11 fun v12 s13 =>
nop (some (.cells (unrle [(1, (.int .i64 0)), (1, (.slice none 0 0))]) none, ptrTo)) s13 fun v14 s15 =>
eop (storeV 2 v14 v12 s15) fun _ s17 =>
vop (faddr 8 v0) s17 fun v18 s19 =>
vop (loadV false 1 v18 s19.get) s19 fun v20 s21 =>
vop (binI .add v20 (.int .i64 1)) s21 fun v22 s23 =>
lop 1 (fun (n24 : Value → Store → Prop) x25 s26 =>
vop (binI .lss x25 v22) s26 fun v27 s28 =>
condH v27 (
vop (faddr 1 v14) s28 fun v29 s30 =>
vop (loadV false 1 v29 s28.get) s30 fun v31 _ =>
vop (binI .quo x25 (.int .i64 8192)) s30 fun v32 s33 =>
vop (binI .rem x25 (.int .i64 8192)) s33 fun v34 s35 =>
vop (binI .quo v34 (.int .i64 8)) s35 fun v36 s37 =>
vop (iaddrS 1024 v31 v32) s37 fun v38 s39 =>
vop (iaddrA 1024 1 v38 v36) s39 fun v40 s41 =>
vop (loadV false 1 v40 s28.get) s41 fun v42 _ =>
vop (binI .rem x25 (.int .i64 8)) s41 fun v43 s44 =>
vop (shiftV .shl (.int .u8 1) v43) s44 fun v45 s46 =>
vop (binI .or v42 v45) s46 fun v47 s48 =>
vop (iaddrS 1024 v31 v32) s48 fun v49 s50 =>
vop (iaddrA 1024 1 v49 v36) s50 fun v51 s52 =>
eop (storeV 1 v51 v47 s52) fun _ s54 =>
vop (binI .add x25 (.int .i64 1)) s54 fun v55 s56 =>
n24 v55 s56) (
vop (loadV true 2 v14 s28.get) s28 fun v57 s58 =>
eop (storeV 2 v2 v57 s58) fun _ s60 =>
vop (loadV true 2 v2 s60.get) s60 fun v61 _ =>
K v61 s60)) (.int .i64 0) s23
theorem e28 (K : Value → Store → Prop) (a0 : Value) (s : Store) : bodyT Try.prog Try.f28 [a0] s K = p28 K a0 s := by kernel_rfl
theorem d28 {K : Value → Store → Prop} {a0 : Value} {s : Store} (h : p28 K a0 s) : Does Try.prog 28 [a0] s K := does_of_print Try.func28 (by kernel_rfl) ((e28 K a0 s).symm ▸ h)
/-- undercroft/mkfs.root -/
def p29 (K : Value → Store → Prop) (a0 : Value) (s : Store) : Prop :=
nop (boxN a0) s fun v0 s1 =>
nop (some (.cells (unrle [(1, (.int .i64 0)), (1, (.slice none 0 0))]) none, ptrTo)) s1 fun v2 s3 =>
nop (some (.cells (unrle [(1024, (.int .u8 0))]) none, ptrTo)) s3 fun v4 s5 =>
nop (sliceOf 2 (buildL (List.replicate 2 (unrle [(1, (.string ⟨#[]⟩))])) [(0, (.string ⟨#[46]⟩)), (1, (.string ⟨#[46, 46]⟩))])) s5 fun v6 s7 =>
vop (lenSl v6) s7 fun v8 s9 =>
lop 1 (fun (n10 : Value → Store → Prop) x11 s12 =>
vop (binI .lss x11 v8) s12 fun v13 s14 =>
condH v13 (
vop (iaddrS 1 v6 x11) s14 fun v15 s16 =>
vop (loadV false 1 v15 s16.get) s16 fun v17 s18 =>
vop (aggOf (buildL [(unrle [(1, (.int .u16 0))]), (unrle [(1, (.string ⟨#[]⟩))])] [(0, (.int .u16 1)), (1, v17)])) s18 fun v19 s20 =>
Does Try.prog 42 [v19] s20 fun v21 s22 =>
vop (extractV v21 0) s22 fun v23 s24 =>
vop (extractV v21 1) s24 fun _ s26 =>
nop (some (.cells (unrle [(16, (.int .u8 0))]) none, ptrTo)) s26 fun v27 s28 =>
eop (storeV 16 v27 v23 s28) fun _ s30 =>
vop (binI .mul x11 (.int .i64 16)) s30 fun v31 s32 =>
vop (sliceAr 1024 1 v4 (some v31) none) s32 fun v33 s34 =>
vop (sliceAr 16 1 v27 none none) s34 fun v35 s36 =>
eop (copyV 1 v33 v35 s36) fun _ s38 =>
vop (binI .add x11 (.int .i64 1)) s38 fun v39 s40 =>
n10 v39 s40) (
vop (faddr 8 v0) s14 fun v41 s42 =>
vop (loadV false 1 v41 s42.get) s42 fun v43 s44 =>
vop (loadV true 1024 v4 s44.get) s44 fun v45 s46 =>
nop (sliceOf 1 (buildL (List.replicate 1 (unrle [(1024, (.int .u8 0))])) [(0, v45)])) s46 fun v47 s48 =>
vop (aggOf (buildL [(unrle [(1, (.int .i64 0))]), (unrle [(1, (.slice none 0 0))])] [(0, v43), (1, v47)])) s48 fun v49 s50 =>
eop (storeV 2 v2 v49 s50) fun _ s52 =>
vop (loadV true 2 v2 s52.get) s52 fun v53 _ =>
K v53 s52)) (.int .i64 0) s9
theorem e29 (K : Value → Store → Prop) (a0 : Value) (s : Store) : bodyT Try.prog Try.f29 [a0] s K = p29 K a0 s := by kernel_rfl
theorem d29 {K : Value → Store → Prop} {a0 : Value} {s : Store} (h : p29 K a0 s) : Does Try.prog 29 [a0] s K := does_of_print Try.func29 (by kernel_rfl) ((e29 K a0 s).symm ▸ h)
/-- (*undercroft/disk.Disk).is -/
def p30 (K : Value → Store → Prop) (a0 : Value) (s : Store) : Prop :=
vop (eqPn true a0 (.pointer none)) s fun v0 s1 =>
gop v0 true s1 (fun K => K a0 s1) fun v2 s3 =>
gop v0 true s3 (fun K => vop (nilV v2) s3 K) fun v4 s5 =>
gop v0 true s5 (fun K => vop (faddr 0 v4) s5 K) fun v6 s7 =>
gop v0 true s7 (fun K => vop (loadV false 1 v6 s7.get) s7 K) fun v8 s9 =>
gop v0 true s9 (fun K => vop (binI .gtr v8 (.int .i64 0)) s9 K) fun v10 s11 =>
vop (pickV v0 v10 (.bool false)) s11 fun v12 s13 =>
K v12 s13
theorem e30 (K : Value → Store → Prop) (a0 : Value) (s : Store) : bodyT Try.prog Try.f30 [a0] s K = p30 K a0 s := by kernel_rfl
theorem d30 {K : Value → Store → Prop} {a0 : Value} {s : Store} (h : p30 K a0 s) : Does Try.prog 30 [a0] s K := does_of_print Try.func30 (by kernel_rfl) ((e30 K a0 s).symm ▸ h)
/-- (*undercroft/disk.Disk).check -/
def p31 (K : Value → Store → Prop) (a0 : Value) (s : Store) : Prop :=
Does Try.prog 30 [a0] s fun v0 s1 =>
vop (unV .not v0) s1 fun v2 s3 =>
condH v2 (
K (.int .i64 1) s3) (
vop (nilV a0) s3 fun v4 s5 =>
vop (faddr 6 v4) s5 fun v6 s7 =>
vop (loadV false 1 v6 s7.get) s7 fun v8 s9 =>
condH v8 (
K (.int .i64 3) s9) (
K (.int .i64 0) s9))
theorem e31 (K : Value → Store → Prop) (a0 : Value) (s : Store) : bodyT Try.prog Try.f31 [a0] s K = p31 K a0 s := by kernel_rfl
theorem d31 {K : Value → Store → Prop} {a0 : Value} {s : Store} (h : p31 K a0 s) : Does Try.prog 31 [a0] s K := does_of_print Try.func31 (by kernel_rfl) ((e31 K a0 s).symm ▸ h)
/-- (*undercroft/disk.Disk).keep -/
def p32 (K : Value → Store → Prop) (a0 a1 : Value) (s : Store) : Prop :=
nop (boxN a1) s fun v0 s1 =>
vop (faddr 1 v0) s1 fun v2 s3 =>
vop (loadV true 1024 v2 s3.get) s3 fun v4 s5 =>
vop (aggOf (buildL (List.replicate 1024 (unrle [(1, (.int .u8 0))])) [])) s5 fun v6 s7 =>
vop (eqA (.ints .u8 1024) false v4 v6) s7 fun v8 s9 =>
condH v8 (
vop (nilV a0) s9 fun v10 s11 =>
vop (faddr 1 v10) s11 fun v12 s13 =>
vop (loadV false 1 v12 s9.get) s13 fun v14 _ =>
vop (faddr 0 v0) s13 fun v15 s16 =>
vop (loadV false 1 v15 s9.get) s16 fun v17 _ =>
eop (delH (.int .i64) v14 v17 s16) fun _ s19 =>
K (.tuple #[]) s19) (
vop (nilV a0) s9 fun v20 s21 =>
vop (faddr 1 v20) s21 fun v22 s23 =>
vop (loadV false 1 v22 s9.get) s23 fun v24 _ =>
vop (faddr 0 v0) s23 fun v25 s26 =>
vop (loadV false 1 v25 s9.get) s26 fun v27 _ =>
vop (faddr 1 v0) s26 fun v28 s29 =>
vop (loadV true 1024 v28 s9.get) s29 fun v30 _ =>
eop (updH (.int .i64) v24 v27 v30 s29) fun _ s32 =>
K (.tuple #[]) s32)
theorem e32 (K : Value → Store → Prop) (a0 a1 : Value) (s : Store) : bodyT Try.prog Try.f32 [a0, a1] s K = p32 K a0 a1 s := by kernel_rfl
theorem d32 {K : Value → Store → Prop} {a0 a1 : Value} {s : Store} (h : p32 K a0 a1 s) : Does Try.prog 32 [a0, a1] s K := does_of_print Try.func32 (by kernel_rfl) ((e32 K a0 a1 s).symm ▸ h)
/-- undercroft/undercroftkit.SameHelds -/
def p35 (K : Value → Store → Prop) (a0 a1 : Value) (s : Store) : Prop :=
vop (lenSl a0) s fun v0 s1 =>
vop (lenSl a1) s1 fun v2 s3 =>
vop (binI .neq v0 v2) s3 fun v4 s5 =>
condH v4 (
K (.bool false) s5) (
lop 1 (fun (n6 : Value → Store → Prop) x7 s8 =>
vop (lenSl a0) s8 fun v9 s10 =>
vop (binI .lss x7 v9) s10 fun v11 s12 =>
condH v11 (
vop (iaddrS 1025 a0 x7) s12 fun v13 s14 =>
vop (loadV true 1025 v13 s12.get) s14 fun v15 _ =>
vop (iaddrS 1025 a1 x7) s14 fun v16 s17 =>
vop (loadV true 1025 v16 s12.get) s17 fun v18 _ =>
vop (eqA (.fields [(0, 1, (.one (.int .i64))), (1, 1024, (.ints .u8 1024))]) true v15 v18) s17 fun v19 s20 =>
condH v19 (
K (.bool false) s20) (
vop (binI .add x7 (.int .i64 1)) s20 fun v21 s22 =>
n6 v21 s22)) (
K (.bool true) s12)) (.int .i64 0) s5)
theorem e35 (K : Value → Store → Prop) (a0 a1 : Value) (s : Store) : bodyT Try.prog Try.f35 [a0, a1] s K = p35 K a0 a1 s := by kernel_rfl
theorem d35 {K : Value → Store → Prop} {a0 a1 : Value} {s : Store} (h : p35 K a0 a1 s) : Does Try.prog 35 [a0, a1] s K := does_of_print Try.func35 (by kernel_rfl) ((e35 K a0 a1 s).symm ▸ h)
/-- undercroft/shape.made -/
def p36 (K : Value → Store → Prop) (a0 : Value) (s : Store) : Prop :=
nop (boxN a0) s fun v0 s1 =>
vop (faddr 0 v0) s1 fun v2 s3 =>
vop (loadV true 3 v2 s3.get) s3 fun v4 s5 =>
Does Try.prog 22 [v4] s5 fun v6 s7 =>
vop (extractV v6 0) s7 fun v8 s9 =>
vop (extractV v6 1) s9 fun v10 s11 =>
nop (some (.cells (unrle [(9, (.int .i64 0))]) none, ptrTo)) s11 fun v12 s13 =>
eop (storeV 9 v12 v8 s13) fun _ s15 =>
vop (binI .eql v10 (.int .i64 0)) s15 fun v16 s17 =>
gop v16 true s17 (fun K => vop (loadV true 9 v12 s17.get) s17 K) fun v18 s19 =>
gop v16 true s19 (fun K => vop (loadV true 9 v0 s19.get) s19 K) fun v20 s21 =>
gop v16 true s21 (fun K => vop (eqA (.fields [(0, 3, (.fields [(0, 1, (.one (.int .i64))), (1, 1, (.one (.int .i64))), (2, 1, (.one (.int .i64)))])), (3, 1, (.one (.int .i64))), (4, 1, (.one (.int .i64))), (5, 1, (.one (.int .i64))), (6, 1, (.one (.int .i64))), (7, 1, (.one (.int .i64))), (8, 1, (.one (.int .i64)))]) false v18 v20) s21 K) fun v22 s23 =>
vop (pickV v16 v22 (.bool false)) s23 fun v24 s25 =>
K v24 s25
theorem e36 (K : Value → Store → Prop) (a0 : Value) (s : Store) : bodyT Try.prog Try.f36 [a0] s K = p36 K a0 s := by kernel_rfl
theorem d36 {K : Value → Store → Prop} {a0 : Value} {s : Store} (h : p36 K a0 s) : Does Try.prog 36 [a0] s K := does_of_print Try.func36 (by kernel_rfl) ((e36 K a0 s).symm ▸ h)
/-- undercroft/slab.Lay -/
def p37 (K : Value → Store → Prop) (a0 a1 a2 : Value) (s : Store) : Prop :=
nop (boxN a0) s fun v0 s1 =>
nop (some (.cells (unrle [(1024, (.int .u8 0))]) none, ptrTo)) s1 fun v2 s3 =>
vop (lenSl a2) s3 fun v4 s5 =>
Does Try.prog 48 [a1, v4] s5 fun v6 s7 =>
vop (extractV v6 0) s7 fun v8 s9 =>
vop (extractV v6 1) s9 fun v10 s11 =>
lop 1 (fun (n12 : Value → Store → Prop) x13 s14 =>
vop (binI .lss x13 v10) s14 fun v15 s16 =>
condH v15 (
vop (binI .sub x13 a1) s16 fun v17 s18 =>
vop (iaddrS 1 a2 v17) s18 fun v19 s20 =>
vop (loadV false 1 v19 s20.get) s20 fun v21 s22 =>
vop (iaddrA 1024 1 v0 x13) s22 fun v23 s24 =>
eop (storeV 1 v23 v21 s24) fun _ s26 =>
vop (binI .add x13 (.int .i64 1)) s26 fun v27 s28 =>
n12 v27 s28) (
vop (loadV true 1024 v0 s16.get) s16 fun v29 s30 =>
eop (storeV 1024 v2 v29 s30) fun _ s32 =>
vop (loadV true 1024 v2 s32.get) s32 fun v33 _ =>
K v33 s32)) v8 s11
theorem e37 (K : Value → Store → Prop) (a0 a1 a2 : Value) (s : Store) : bodyT Try.prog Try.f37 [a0, a1, a2] s K = p37 K a0 a1 a2 s := by kernel_rfl
theorem d37 {K : Value → Store → Prop} {a0 a1 a2 : Value} {s : Store} (h : p37 K a0 a1 a2 s) : Does Try.prog 37 [a0, a1, a2] s K := does_of_print Try.func37 (by kernel_rfl) ((e37 K a0 a1 a2 s).symm ▸ h)
/-- undercroft/slab.SetU32 -/
def p38 (K : Value → Store → Prop) (a0 a1 a2 : Value) (s : Store) : Prop :=
nop (boxN a0) s fun v0 s1 =>
nop (some (.cells (unrle [(1024, (.int .u8 0))]) none, ptrTo)) s1 fun v2 s3 =>
jop 0 (fun (k4 : Store → Prop) =>
Does Try.prog 49 [a1, (.int .i64 4)] s3 fun v5 s6 =>
condH v5 (
lop 1 (fun (n7 : Value → Store → Prop) x8 s9 =>
vop (binI .lss x8 (.int .i64 4)) s9 fun v10 s11 =>
condH v10 (
vop (binI .add a1 x8) s11 fun v12 s13 =>
vop (binI .mul (.int .i64 8) x8) s13 fun v14 s15 =>
vop (shiftV .shr a2 v14) s15 fun v16 s17 =>
vop (convI .u8 v16) s17 fun v18 s19 =>
vop (iaddrA 1024 1 v0 v12) s19 fun v20 s21 =>
eop (storeV 1 v20 v18 s21) fun _ s23 =>
vop (binI .add x8 (.int .i64 1)) s23 fun v24 s25 =>
n7 v24 s25) (
k4 s11)) (.int .i64 0) s6) (
k4 s6)) fun s26 =>
vop (loadV true 1024 v0 s26.get) s26 fun v27 s28 =>
eop (storeV 1024 v2 v27 s28) fun _ s30 =>
vop (loadV true 1024 v2 s30.get) s30 fun v31 _ =>
K v31 s30
theorem e38 (K : Value → Store → Prop) (a0 a1 a2 : Value) (s : Store) : bodyT Try.prog Try.f38 [a0, a1, a2] s K = p38 K a0 a1 a2 s := by kernel_rfl
theorem d38 {K : Value → Store → Prop} {a0 a1 a2 : Value} {s : Store} (h : p38 K a0 a1 a2 s) : Does Try.prog 38 [a0, a1, a2] s K := does_of_print Try.func38 (by kernel_rfl) ((e38 K a0 a1 a2 s).symm ▸ h)
def p39_1 (v46 : Value) (s43 : Store) (s47 : Store) (v0 : Value) (a1 : Value) (a0 : Value) (K : Value → Store → Prop) : Prop :=
vop (loadV false 1 v46 s43.get) s47 fun v48 _ =>
vop (loadV true 1024 v0 s43.get) s47 fun v49 _ =>
eop (updH (.int .i64) v48 a1 v49 s47) fun _ s51 =>
vop (nilV a0) s51 fun v52 s53 =>
vop (faddr 4 v52) s53 fun v54 s55 =>
vop (loadV false 1 v54 s51.get) s55 fun v56 _ =>
vop (loadV true 1024 v0 s51.get) s55 fun v57 _ =>
vop (aggOf (buildL [(unrle [(1, (.int .u8 0))]), (unrle [(1, (.int .i64 0))]), (unrle [(1024, (.int .u8 0))])] [(0, (.int .u8 1)), (1, a1), (2, v57)])) s55 fun v58 s59 =>
nop (sliceOf 1 (buildL (List.replicate 1 (unrle [(1, (.int .u8 0)), (1, (.int .i64 0)), (1024, (.int .u8 0))])) [(0, v58)])) s59 fun v60 s61 =>
eop (appendV 1026 1040 v56 v60 s61) fun v62 s63 =>
vop (nilV a0) s63 fun v64 s65 =>
vop (faddr 4 v64) s65 fun v66 s67 =>
eop (storeV 1 v66 v62 s67) fun _ s69 =>
K (.int .i64 0) s69
def p39_2 (v24 : Value) (K : Value → Store → Prop) (s25 : Store) (a0 : Value) (v0 : Value) (a1 : Value) : Prop :=
condH v24 (
K (.int .i64 3) s25) (
vop (nilV a0) s25 fun v26 s27 =>
vop (faddr 3 v26) s27 fun v28 s29 =>
vop (loadV false 1 v28 s25.get) s29 fun v30 _ =>
vop (loadV true 1024 v0 s25.get) s29 fun v31 _ =>
vop (aggOf (buildL [(unrle [(1, (.int .i64 0))]), (unrle [(1024, (.int .u8 0))])] [(0, a1), (1, v31)])) s29 fun v32 s33 =>
nop (sliceOf 1 (buildL (List.replicate 1 (unrle [(1, (.int .i64 0)), (1024, (.int .u8 0))])) [(0, v32)])) s33 fun v34 s35 =>
eop (appendV 1025 1032 v30 v34 s35) fun v36 s37 =>
vop (nilV a0) s37 fun v38 s39 =>
vop (faddr 3 v38) s39 fun v40 s41 =>
eop (storeV 1 v40 v36 s41) fun _ s43 =>
vop (nilV a0) s43 fun v44 s45 =>
vop (faddr 2 v44) s45 fun v46 s47 =>
p39_1 v46 s43 s47 v0 a1 a0 K)
def p39_3 (v4 : Value) (K : Value → Store → Prop) (v2 : Value) (s5 : Store) (a1 : Value) (a0 : Value) (v0 : Value) : Prop :=
condH v4 (
K v2 s5) (
vop (binI .lss a1 (.int .i64 0)) s5 fun v6 s7 =>
gop v6 false s7 (fun K => K a1 s7) fun v8 s9 =>
gop v6 false s9 (fun K => K a0 s9) fun v10 s11 =>
gop v6 false s11 (fun K => vop (nilV v10) s11 K) fun v12 s13 =>
gop v6 false s13 (fun K => vop (faddr 0 v12) s13 K) fun v14 s15 =>
gop v6 false s15 (fun K => vop (loadV false 1 v14 s15.get) s15 K) fun v16 s17 =>
gop v6 false s17 (fun K => vop (binI .geq v8 v16) s17 K) fun v18 s19 =>
vop (pickV v6 (.bool true) v18) s19 fun v20 s21 =>
condH v20 (
K (.int .i64 2) s21) (
Does Try.prog 50 [a0] s21 fun v22 s23 =>
vop (unV .not v22) s23 fun v24 s25 =>
p39_2 v24 K s25 a0 v0 a1))
/-- (*undercroft/disk.Disk).Write -/
def p39 (K : Value → Store → Prop) (a0 a1 a2 : Value) (s : Store) : Prop :=
nop (boxN a2) s fun v0 s1 =>
Does Try.prog 31 [a0] s1 fun v2 s3 =>
vop (binI .neq v2 (.int .i64 0)) s3 fun v4 s5 =>
p39_3 v4 K v2 s5 a1 a0 v0
theorem e39 (K : Value → Store → Prop) (a0 a1 a2 : Value) (s : Store) : bodyT Try.prog Try.f39 [a0, a1, a2] s K = p39 K a0 a1 a2 s := by kernel_rfl
theorem d39 {K : Value → Store → Prop} {a0 a1 a2 : Value} {s : Store} (h : p39 K a0 a1 a2 s) : Does Try.prog 39 [a0, a1, a2] s K := does_of_print Try.func39 (by kernel_rfl) ((e39 K a0 a1 a2 s).symm ▸ h)
/-- (*undercroft/disk.Disk).Barrier -/
def p40 (K : Value → Store → Prop) (a0 : Value) (s : Store) : Prop :=
Does Try.prog 31 [a0] s fun v0 s1 =>
vop (binI .neq v0 (.int .i64 0)) s1 fun v2 s3 =>
condH v2 (
K v0 s3) (
Does Try.prog 50 [a0] s3 fun v4 s5 =>
vop (unV .not v4) s5 fun v6 s7 =>
condH v6 (
K (.int .i64 3) s7) (
vop (nilV a0) s7 fun v8 s9 =>
vop (faddr 3 v8) s9 fun v10 s11 =>
vop (loadV false 1 v10 s11.get) s11 fun v12 s13 =>
vop (lenSl v12) s13 fun v14 s15 =>
lop 1 (fun (n16 : Value → Store → Prop) x17 s18 =>
vop (binI .lss x17 v14) s18 fun v19 s20 =>
condH v19 (
vop (iaddrS 1025 v12 x17) s20 fun v21 s22 =>
vop (loadV true 1025 v21 s22.get) s22 fun v23 s24 =>
nop (some (.cells (unrle [(1, (.int .i64 0)), (1024, (.int .u8 0))]) none, ptrTo)) s24 fun v25 s26 =>
eop (storeV 1025 v25 v23 s26) fun _ s28 =>
vop (loadV true 1025 v25 s28.get) s28 fun v29 s30 =>
Does Try.prog 32 [a0, v29] s30 fun _ s32 =>
vop (binI .add x17 (.int .i64 1)) s32 fun v33 s34 =>
n16 v33 s34) (
vop (nilV a0) s20 fun v35 s36 =>
vop (faddr 3 v35) s36 fun v37 s38 =>
eop (storeV 1 v37 (.slice none 0 0) s38) fun _ s40 =>
vop (nilV a0) s40 fun v41 s42 =>
vop (faddr 2 v41) s42 fun v43 s44 =>
vop (loadV false 1 v43 s44.get) s44 fun v45 s46 =>
eop (clearV v45 s46) fun _ s48 =>
vop (nilV a0) s48 fun v49 s50 =>
vop (faddr 4 v49) s50 fun v51 s52 =>
vop (loadV false 1 v51 s52.get) s52 fun v53 s54 =>
vop (aggOf (buildL [(unrle [(1, (.int .u8 0))]), (unrle [(1, (.int .i64 0))]), (unrle [(1024, (.int .u8 0))])] [(0, (.int .u8 2))])) s54 fun v55 s56 =>
nop (sliceOf 1 (buildL (List.replicate 1 (unrle [(1, (.int .u8 0)), (1, (.int .i64 0)), (1024, (.int .u8 0))])) [(0, v55)])) s56 fun v57 s58 =>
eop (appendV 1026 1040 v53 v57 s58) fun v59 s60 =>
vop (nilV a0) s60 fun v61 s62 =>
vop (faddr 4 v61) s62 fun v63 s64 =>
eop (storeV 1 v63 v59 s64) fun _ s66 =>
K (.int .i64 0) s66)) (.int .i64 0) s15))
theorem e40 (K : Value → Store → Prop) (a0 : Value) (s : Store) : bodyT Try.prog Try.f40 [a0] s K = p40 K a0 s := by kernel_rfl
theorem d40 {K : Value → Store → Prop} {a0 : Value} {s : Store} (h : p40 K a0 s) : Does Try.prog 40 [a0] s K := does_of_print Try.func40 (by kernel_rfl) ((e40 K a0 s).symm ▸ h)
def p41_1 (v71 : Value) (s72 : Store) (v69 : Value) (v12 : Value) (v0 : Value) (v2 : Value) (K : Value → Store → Prop) : Prop :=
vop (loadV false 1 v71 s72.get) s72 fun v73 s74 =>
Does Try.prog 38 [v69, (.int .i64 52), v73] s74 fun v75 s76 =>
eop (storeV 1024 v12 v75 s76) fun _ s78 =>
vop (loadV true 1024 v12 s78.get) s78 fun v79 s80 =>
vop (faddr 15 v0) s80 fun v81 s82 =>
vop (loadV false 1 v81 s82.get) s82 fun v83 s84 =>
Does Try.prog 38 [v79, (.int .i64 56), v83] s84 fun v85 s86 =>
eop (storeV 1024 v12 v85 s86) fun _ s88 =>
vop (sliceAr 1024 1 v12 none (some (.int .i64 64))) s88 fun v89 s90 =>
vop (s2a 64 v89) s90 fun v91 s92 =>
vop (loadV true 64 v91 s92.get) s92 fun v93 s94 =>
eop (storeV 64 v2 v93 s94) fun _ s96 =>
vop (loadV true 64 v2 s96.get) s96 fun v97 _ =>
K v97 s96
def p41_2 (v48 : Value) (v12 : Value) (v0 : Value) (v2 : Value) (K : Value → Store → Prop) (s49 : Store) : Prop :=
lop 1 (fun (n50 : Value → Store → Prop) x51 s52 =>
vop (binI .lss x51 (.int .i64 10)) s52 fun v53 s54 =>
condH v53 (
vop (indexA false 1 10 v48 x51) s54 fun v55 s56 =>
vop (loadV true 1024 v12 s56.get) s56 fun v57 s58 =>
vop (binI .mul (.int .i64 4) x51) s58 fun v59 s60 =>
vop (binI .add (.int .i64 12) v59) s60 fun v61 s62 =>
Does Try.prog 38 [v57, v61, v55] s62 fun v63 s64 =>
eop (storeV 1024 v12 v63 s64) fun _ s66 =>
vop (binI .add x51 (.int .i64 1)) s66 fun v67 s68 =>
n50 v67 s68) (
vop (loadV true 1024 v12 s54.get) s54 fun v69 s70 =>
vop (faddr 14 v0) s70 fun v71 s72 =>
p41_1 v71 s72 v69 v12 v0 v2 K)) (.int .i64 0) s49
def p41_3 (v12 : Value) (v22 : Value) (s23 : Store) (v0 : Value) (v2 : Value) (K : Value → Store → Prop) : Prop :=
eop (storeV 1024 v12 v22 s23) fun _ s25 =>
vop (loadV true 1024 v12 s25.get) s25 fun v26 s27 =>
vop (faddr 2 v0) s27 fun v28 s29 =>
vop (loadV false 1 v28 s29.get) s29 fun v30 s31 =>
Does Try.prog 38 [v26, (.int .i64 4), v30] s31 fun v32 s33 =>
eop (storeV 1024 v12 v32 s33) fun _ s35 =>
vop (loadV true 1024 v12 s35.get) s35 fun v36 s37 =>
vop (faddr 3 v0) s37 fun v38 s39 =>
vop (loadV false 1 v38 s39.get) s39 fun v40 s41 =>
Does Try.prog 38 [v36, (.int .i64 8), v40] s41 fun v42 s43 =>
eop (storeV 1024 v12 v42 s43) fun _ s45 =>
vop (faddr 4 v0) s45 fun v46 s47 =>
vop (loadV true 10 v46 s47.get) s47 fun v48 s49 =>
p41_2 v48 v12 v0 v2 K s49
/-- undercroft/node.Encode -/
def p41 (K : Value → Store → Prop) (a0 : Value) (s : Store) : Prop :=
nop (boxN a0) s fun v0 s1 =>
nop (some (.cells (unrle [(64, (.int .u8 0))]) none, ptrTo)) s1 fun v2 s3 =>
vop (aggOf (buildL (List.replicate 1024 (unrle [(1, (.int .u8 0))])) [])) s3 fun v4 s5 =>
vop (faddr 0 v0) s5 fun v6 s7 =>
vop (loadV false 1 v6 s7.get) s7 fun v8 s9 =>
Does Try.prog 51 [v4, (.int .i64 0), v8] s9 fun v10 s11 =>
nop (some (.cells (unrle [(1024, (.int .u8 0))]) none, ptrTo)) s11 fun v12 s13 =>
eop (storeV 1024 v12 v10 s13) fun _ s15 =>
vop (loadV true 1024 v12 s15.get) s15 fun v16 s17 =>
vop (faddr 1 v0) s17 fun v18 s19 =>
vop (loadV false 1 v18 s19.get) s19 fun v20 s21 =>
Does Try.prog 51 [v16, (.int .i64 2), v20] s21 fun v22 s23 =>
p41_3 v12 v22 s23 v0 v2 K
theorem e41 (K : Value → Store → Prop) (a0 : Value) (s : Store) : bodyT Try.prog Try.f41 [a0] s K = p41 K a0 s := by kernel_rfl
theorem d41 {K : Value → Store → Prop} {a0 : Value} {s : Store} (h : p41 K a0 s) : Does Try.prog 41 [a0] s K := does_of_print Try.func41 (by kernel_rfl) ((e41 K a0 s).symm ▸ h)
def p42_1 (v41 : Value) (s33 : Store) (s42 : Store) (v39 : Value) (v0 : Value) (v2 : Value) (K : Value → Store → Prop) : Prop :=
vop (loadV false 1 v41 s33.get) s42 fun v43 _ =>
Does Try.prog 51 [v39, (.int .i64 0), v43] s42 fun v44 s45 =>
vop (faddr 1 v0) s45 fun v46 s47 =>
vop (loadV false 1 v46 s45.get) s47 fun v48 _ =>
kop (loadV false 1 v46 s33.get) v48 (
nop (convB v48) s47 fun v49 s50 =>
Does Try.prog 37 [v44, (.int .i64 2), v49] s50 fun v51 s52 =>
nop (some (.cells (unrle [(1024, (.int .u8 0))]) none, ptrTo)) s52 fun v53 s54 =>
eop (storeV 1024 v53 v51 s54) fun _ s56 =>
vop (sliceAr 1024 1 v53 none (some (.int .i64 16))) s56 fun v57 s58 =>
vop (s2a 16 v57) s58 fun v59 s60 =>
vop (loadV true 16 v59 s60.get) s60 fun v61 s62 =>
eop (storeV 16 v2 v61 s62) fun _ s64 =>
vop (loadV true 16 v2 s64.get) s64 fun v65 _ =>
K (.tuple #[v65, (.int .i64 0)]) s64)
def p42_2 (v8 : Value) (v0 : Value) (s9 : Store) (v2 : Value) (K : Value → Store → Prop) : Prop :=
condH v8 (
vop (faddr 1 v0) s9 fun v10 s11 =>
vop (loadV false 1 v10 s11.get) s11 fun v12 s13 =>
vop (binS .neq v12 (.string ⟨#[]⟩)) s13 fun v14 s15 =>
condH v14 (
vop (aggOf (buildL (List.replicate 16 (unrle [(1, (.int .u8 0))])) [])) s15 fun v16 s17 =>
eop (storeV 16 v2 v16 s17) fun _ s19 =>
vop (loadV true 16 v2 s19.get) s19 fun v20 _ =>
K (.tuple #[v20, (.int .i64 4)]) s19) (
vop (aggOf (buildL (List.replicate 16 (unrle [(1, (.int .u8 0))])) [])) s15 fun v21 s22 =>
eop (storeV 16 v2 v21 s22) fun _ s24 =>
vop (loadV true 16 v2 s24.get) s24 fun v25 _ =>
K (.tuple #[v25, (.int .i64 0)]) s24)) (
vop (faddr 1 v0) s9 fun v26 s27 =>
vop (loadV false 1 v26 s27.get) s27 fun v28 s29 =>
Does Try.prog 52 [v28] s29 fun v30 s31 =>
vop (binI .neq v30 (.int .i64 0)) s31 fun v32 s33 =>
condH v32 (
vop (aggOf (buildL (List.replicate 16 (unrle [(1, (.int .u8 0))])) [])) s33 fun v34 s35 =>
eop (storeV 16 v2 v34 s35) fun _ s37 =>
vop (loadV true 16 v2 s37.get) s37 fun v38 _ =>
K (.tuple #[v38, v30]) s37) (
vop (aggOf (buildL (List.replicate 1024 (unrle [(1, (.int .u8 0))])) [])) s33 fun v39 s40 =>
vop (faddr 0 v0) s40 fun v41 s42 =>
p42_1 v41 s33 s42 v39 v0 v2 K))
/-- undercroft/entry.Encode -/
def p42 (K : Value → Store → Prop) (a0 : Value) (s : Store) : Prop :=
nop (boxN a0) s fun v0 s1 =>
nop (some (.cells (unrle [(16, (.int .u8 0))]) none, ptrTo)) s1 fun v2 s3 =>
vop (faddr 0 v0) s3 fun v4 s5 =>
vop (loadV false 1 v4 s5.get) s5 fun v6 s7 =>
vop (binI .eql v6 (.int .u16 0)) s7 fun v8 s9 =>
p42_2 v8 v0 s9 v2 K
theorem e42 (K : Value → Store → Prop) (a0 : Value) (s : Store) : bodyT Try.prog Try.f42 [a0] s K = p42 K a0 s := by kernel_rfl
theorem d42 {K : Value → Store → Prop} {a0 : Value} {s : Store} (h : p42 K a0 s) : Does Try.prog 42 [a0] s K := does_of_print Try.func42 (by kernel_rfl) ((e42 K a0 s).symm ▸ h)
/-- undercroft/slab.span -/
def p48 (K : Value → Store → Prop) (a0 a1 : Value) (s : Store) : Prop :=
vop (binI .lss a1 (.int .i64 1)) s fun v0 s1 =>
gop v0 false s1 (fun K => K a0 s1) fun v2 s3 =>
gop v0 false s3 (fun K => vop (binI .geq v2 (.int .i64 1024)) s3 K) fun v4 s5 =>
vop (pickV v0 (.bool true) v4) s5 fun v6 s7 =>
gop v6 false s7 (fun K => K a0 s7) fun v8 s9 =>
gop v6 false s9 (fun K => vop (binI .lss v8 (.int .i64 0)) s9 K) fun v10 s11 =>
gop v6 false s11 (fun K => K v10 s11) fun v12 s13 =>
gop v12 true s13 (fun K => K a1 s13) fun v14 s15 =>
gop v12 true s15 (fun K => K a0 s15) fun v16 s17 =>
gop v12 true s17 (fun K => vop (binI .add v16 (.int .i64 1)) s17 K) fun v18 s19 =>
gop v12 true s19 (fun K => vop (unV .neg v18) s19 K) fun v20 s21 =>
gop v12 true s21 (fun K => vop (binI .leq v14 v20) s21 K) fun v22 s23 =>
gop v6 false s23 (fun K => vop (pickV v12 v22 (.bool false)) s23 K) fun v24 s25 =>
vop (pickV v6 (.bool true) v24) s25 fun v26 s27 =>
condH v26 (
K (.tuple #[(.int .i64 0), (.int .i64 0)]) s27) (
vop (minMaxV true [a0, (.int .i64 0)]) s27 fun v28 s29 =>
jop 1 (fun (k30 : Value → Store → Prop) =>
vop (binI .lss a0 (.int .i64 0)) s29 fun v31 s32 =>
condH v31 (
vop (binI .add a0 a1) s32 fun v33 s34 =>
vop (minMaxV false [(.int .i64 1024), v33]) s34 fun v35 s36 =>
k30 v35 s36) (
vop (binI .sub (.int .i64 1024) a0) s32 fun v37 s38 =>
vop (binI .lss a1 v37) s38 fun v39 s40 =>
condH v39 (
vop (binI .add a0 a1) s40 fun v41 s42 =>
k30 v41 s42) (
k30 (.int .i64 1024) s40))) fun x43 s44 =>
vop (minMaxV true [v28, x43]) s44 fun v45 s46 =>
K (.tuple #[v28, v45]) s46)
theorem e48 (K : Value → Store → Prop) (a0 a1 : Value) (s : Store) : bodyT Try.prog Try.f48 [a0, a1] s K = p48 K a0 a1 s := by kernel_rfl
theorem d48 {K : Value → Store → Prop} {a0 a1 : Value} {s : Store} (h : p48 K a0 a1 s) : Does Try.prog 48 [a0, a1] s K := does_of_print Try.func48 (by kernel_rfl) ((e48 K a0 a1 s).symm ▸ h)
/-- undercroft/slab.inside -/
def p49 (K : Value → Store → Prop) (a0 a1 : Value) (s : Store) : Prop :=
vop (binI .geq a0 (.int .i64 0)) s fun v0 s1 =>
gop v0 true s1 (fun K => K a0 s1) fun v2 s3 =>
gop v0 true s3 (fun K => K a1 s3) fun v4 s5 =>
gop v0 true s5 (fun K => vop (binI .sub (.int .i64 1024) v4) s5 K) fun v6 s7 =>
gop v0 true s7 (fun K => vop (binI .leq v2 v6) s7 K) fun v8 s9 =>
vop (pickV v0 v8 (.bool false)) s9 fun v10 s11 =>
K v10 s11
theorem e49 (K : Value → Store → Prop) (a0 a1 : Value) (s : Store) : bodyT Try.prog Try.f49 [a0, a1] s K = p49 K a0 a1 s := by kernel_rfl
theorem d49 {K : Value → Store → Prop} {a0 a1 : Value} {s : Store} (h : p49 K a0 a1 s) : Does Try.prog 49 [a0, a1] s K := does_of_print Try.func49 (by kernel_rfl) ((e49 K a0 a1 s).symm ▸ h)
/-- (*undercroft/disk.Disk).burn -/
def p50 (K : Value → Store → Prop) (a0 : Value) (s : Store) : Prop :=
vop (nilV a0) s fun v0 s1 =>
vop (faddr 5 v0) s1 fun v2 s3 =>
vop (loadV false 1 v2 s3.get) s3 fun v4 s5 =>
vop (binI .eql v4 (.int .i64 0)) s5 fun v6 s7 =>
condH v6 (
vop (nilV a0) s7 fun v8 s9 =>
vop (faddr 6 v8) s9 fun v10 s11 =>
eop (storeV 1 v10 (.bool true) s11) fun _ s13 =>
K (.bool false) s13) (
jop 0 (fun (k14 : Store → Prop) =>
vop (nilV a0) s7 fun v15 s16 =>
vop (faddr 5 v15) s16 fun v17 s18 =>
vop (loadV false 1 v17 s18.get) s18 fun v19 s20 =>
vop (binI .gtr v19 (.int .i64 0)) s20 fun v21 s22 =>
condH v21 (
vop (nilV a0) s22 fun v23 s24 =>
vop (faddr 5 v23) s24 fun v25 s26 =>
vop (loadV false 1 v25 s26.get) s26 fun v27 s28 =>
vop (binI .sub v27 (.int .i64 1)) s28 fun v29 s30 =>
vop (nilV a0) s30 fun v31 s32 =>
vop (faddr 5 v31) s32 fun v33 s34 =>
eop (storeV 1 v33 v29 s34) fun _ s36 =>
k14 s36) (
k14 s22)) fun s37 =>
vop (nilV a0) s37 fun v38 s39 =>
vop (faddr 7 v38) s39 fun v40 s41 =>
vop (loadV false 1 v40 s41.get) s41 fun v42 s43 =>
vop (binI .add v42 (.int .i64 1)) s43 fun v44 s45 =>
vop (nilV a0) s45 fun v46 s47 =>
vop (faddr 7 v46) s47 fun v48 s49 =>
eop (storeV 1 v48 v44 s49) fun _ s51 =>
K (.bool true) s51)
theorem e50 (K : Value → Store → Prop) (a0 : Value) (s : Store) : bodyT Try.prog Try.f50 [a0] s K = p50 K a0 s := by kernel_rfl
theorem d50 {K : Value → Store → Prop} {a0 : Value} {s : Store} (h : p50 K a0 s) : Does Try.prog 50 [a0] s K := does_of_print Try.func50 (by kernel_rfl) ((e50 K a0 s).symm ▸ h)
/-- undercroft/slab.SetU16 -/
def p51 (K : Value → Store → Prop) (a0 a1 a2 : Value) (s : Store) : Prop :=
nop (boxN a0) s fun v0 s1 =>
nop (some (.cells (unrle [(1024, (.int .u8 0))]) none, ptrTo)) s1 fun v2 s3 =>
jop 0 (fun (k4 : Store → Prop) =>
Does Try.prog 49 [a1, (.int .i64 2)] s3 fun v5 s6 =>
condH v5 (
vop (binI .add a1 (.int .i64 1)) s6 fun v7 s8 =>
vop (convI .u8 a2) s8 fun v9 s10 =>
vop (shiftV .shr a2 (.int .u64 8)) s10 fun v11 s12 =>
vop (convI .u8 v11) s12 fun v13 s14 =>
vop (iaddrA 1024 1 v0 a1) s14 fun v15 s16 =>
eop (storeV 1 v15 v9 s16) fun _ s18 =>
vop (iaddrA 1024 1 v0 v7) s18 fun v19 s20 =>
eop (storeV 1 v19 v13 s20) fun _ s22 =>
k4 s22) (
k4 s6)) fun s23 =>
vop (loadV true 1024 v0 s23.get) s23 fun v24 s25 =>
eop (storeV 1024 v2 v24 s25) fun _ s27 =>
vop (loadV true 1024 v2 s27.get) s27 fun v28 _ =>
K v28 s27
theorem e51 (K : Value → Store → Prop) (a0 a1 a2 : Value) (s : Store) : bodyT Try.prog Try.f51 [a0, a1, a2] s K = p51 K a0 a1 a2 s := by kernel_rfl
theorem d51 {K : Value → Store → Prop} {a0 a1 a2 : Value} {s : Store} (h : p51 K a0 a1 a2 s) : Does Try.prog 51 [a0, a1, a2] s K := does_of_print Try.func51 (by kernel_rfl) ((e51 K a0 a1 a2 s).symm ▸ h)
/-- undercroft/entry.Name -/
def p52 (K : Value → Store → Prop) (a0 : Value) (s : Store) : Prop :=
vop (binS .eql a0 (.string ⟨#[]⟩)) s fun v0 s1 =>
condH v0 (
K (.int .i64 4) s1) (
vop (lenStr a0) s1 fun v2 s3 =>
lop 1 (fun (n4 : Value → Store → Prop) x5 s6 =>
vop (binI .lss x5 v2) s6 fun v7 s8 =>
condH v7 (
vop (indexStr a0 x5) s8 fun v9 s10 =>
vop (binI .eql v9 (.int .u8 0)) s10 fun v11 s12 =>
gop v11 false s12 (fun K => K a0 s12) fun v13 s14 =>
gop v11 false s14 (fun K => K x5 s14) fun v15 s16 =>
gop v11 false s16 (fun K => vop (indexStr v13 v15) s16 K) fun v17 s18 =>
gop v11 false s18 (fun K => vop (binI .eql v17 (.int .u8 47)) s18 K) fun v19 s20 =>
vop (pickV v11 (.bool true) v19) s20 fun v21 s22 =>
condH v21 (
K (.int .i64 4) s22) (
vop (binI .add x5 (.int .i64 1)) s22 fun v23 s24 =>
n4 v23 s24)) (
vop (lenStr a0) s8 fun v25 s26 =>
vop (binI .gtr v25 (.int .i64 14)) s26 fun v27 s28 =>
condH v27 (
K (.int .i64 12) s28) (
K (.int .i64 0) s28))) (.int .i64 0) s3)
theorem e52 (K : Value → Store → Prop) (a0 : Value) (s : Store) : bodyT Try.prog Try.f52 [a0] s K = p52 K a0 s := by kernel_rfl
theorem d52 {K : Value → Store → Prop} {a0 : Value} {s : Store} (h : p52 K a0 s) : Does Try.prog 52 [a0] s K := does_of_print Try.func52 (by kernel_rfl) ((e52 K a0 s).symm ▸ h)
end Go.Proofs.Ytchfpepbdnjhmaa
