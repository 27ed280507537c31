/- What functions do, printed out of the code. -/
import Derived.Test.YtiaonndafhfkmaaAm34
import Derived.Test.YtiaonndafhfkmaaProg
import Derived.KernelRfl
set_option maxRecDepth 100000
set_option linter.all false
namespace Go.Proofs.Ytiaonndafhfkmaa
open Go.Am
def p4_1 (v192 : Value) (x176 : Value) (s193 : Store) (v188 : Value) (v171 : Value) (s185 : Store) (v89 : Value) (n175 : Value → Store → Prop) : Prop :=
vop (binI .add v192 x176) s193 fun v194 s195 =>
Does Try.prog 24 [v188, v194] s195 fun v196 s197 =>
vop (loadV true 2 v171 s197.get) s197 fun v198 _ =>
kop (loadV true 2 v171 s185.get) v198 (
vop (faddr 0 v89) s197 fun v199 s200 =>
vop (loadV false 1 v199 s197.get) s200 fun v201 _ =>
kop (loadV false 1 v199 s185.get) v201 (
vop (iaddrS 1 v201 x176) s200 fun v202 s203 =>
vop (loadV false 1 v202 s197.get) s203 fun v204 _ =>
kop (loadV false 1 v202 s185.get) v204 (
Does Try.prog 27 [v198, v204, v196] s203 fun v205 s206 =>
eop (storeV 2 v171 v205 s206) fun _ s208 =>
vop (binI .add x176 (.int .i64 1)) s208 fun v209 s210 =>
n175 v209 s210)))
def p4_2 (v272 : Value) (s275 : Store) (K : Value → Store → Prop) (v274 : Value) (v58 : Value) (v171 : Value) : Prop :=
gop v272 true s275 (fun K => vop (binI .eql v274 (.int .i64 0)) s275 K) fun v276 s277 =>
vop (pickV v272 v276 (.bool false)) s277 fun v278 s279 =>
gop v278 true s279 (fun K => K v58 s279) fun v280 s281 =>
gop v278 true s281 (fun K => Does Try.prog 28 [v280] s281 K) fun v282 s283 =>
gop v278 true s283 (fun K => vop (lenSl v282) s283 K) fun v284 s285 =>
gop v278 true s285 (fun K => vop (binI .eql v284 (.int .i64 0)) s285 K) fun v286 s287 =>
vop (pickV v278 v286 (.bool false)) s287 fun v288 s289 =>
gop v288 true s289 (fun K => K v58 s289) fun v290 s291 =>
gop v288 true s291 (fun K => Does Try.prog 30 [v290] s291 K) fun v292 s293 =>
gop v288 true s293 (fun K => vop (loadV true 2 v171 s293.get) s293 K) fun v294 _ =>
kop (gsel v288 true (loadV true 2 v171) s283.get) v294 (
gop v288 true s293 (fun K => Does Try.prog 29 [v292, v294] s293 K) fun v295 s296 =>
vop (pickV v288 v295 (.bool false)) s296 fun v297 s298 =>
K v297 s298)
def p4_3 (v249 : Value) (s250 : Store) (K : Value → Store → Prop) (v145 : Value) (v89 : Value) (s248 : Store) (v239 : Value) (v237 : Value) (v247 : Value) (v58 : Value) (v171 : Value) : Prop :=
gop v249 true s250 (fun K => K v145 s250) fun v251 s252 =>
gop v249 true s252 (fun K => vop (faddr 0 v89) s252 K) fun v253 s254 =>
gop v249 true s254 (fun K => vop (loadV false 1 v253 s248.get) s254 K) fun v255 _ =>
gop v249 true s254 (fun K => vop (lenSl v255) s254 K) fun v256 s257 =>
gop v249 true s257 (fun K => vop (binI .eql v251 v256) s257 K) fun v258 s259 =>
vop (pickV v249 v258 (.bool false)) s259 fun v260 s261 =>
gop v260 true s261 (fun K => K v239 s261) fun v262 s263 =>
gop v260 true s263 (fun K => vop (binI .eql v262 (.int .i64 0)) s263 K) fun v264 s265 =>
vop (pickV v260 v264 (.bool false)) s265 fun v266 s267 =>
gop v266 true s267 (fun K => K v237 s267) fun v268 s269 =>
gop v266 true s269 (fun K => vop (binI .eql v268 (.int .i64 0)) s269 K) fun v270 s271 =>
vop (pickV v266 v270 (.bool false)) s271 fun v272 s273 =>
gop v272 true s273 (fun K => K v247 s273) fun v274 s275 =>
p4_2 v272 s275 K v274 v58 v171
def p4_4 (v89 : Value) (s185 : Store) (v171 : Value) (v12 : Value) (v58 : Value) (v147 : Value) (K : Value → Store → Prop) (v145 : Value) : Prop :=
jop 0 (fun (k211 : Store → Prop) =>
vop (faddr 0 v89) s185 fun v212 s213 =>
vop (loadV false 1 v212 s213.get) s213 fun v214 s215 =>
vop (lenSl v214) s215 fun v216 s217 =>
vop (binI .gtr v216 (.int .i64 0)) s217 fun v218 s219 =>
condH v218 (
vop (loadV true 2 v171 s219.get) s219 fun v220 s221 =>
vop (faddr 3 v12) s221 fun v222 s223 =>
vop (loadV false 1 v222 s223.get) s223 fun v224 s225 =>
vop (aggOf (buildL (List.replicate 1024 (unrle [(1, (.int .u8 0))])) [])) s225 fun v226 s227 =>
Does Try.prog 27 [v220, v224, v226] s227 fun v228 s229 =>
eop (storeV 2 v171 v228 s229) fun _ s231 =>
k211 s231) (
k211 s219)) fun s232 =>
vop (loadV true 9 v12 s232.get) s232 fun v233 s234 =>
Does Try.prog 26 [v58, v233] s234 fun v235 s236 =>
vop (extractV v235 0) s236 fun v237 s238 =>
vop (extractV v235 1) s238 fun v239 s240 =>
vop (loadV true 9 v12 s240.get) s240 fun v241 s242 =>
Does Try.prog 25 [v58, v241] s242 fun v243 s244 =>
vop (extractV v243 0) s244 fun _ s246 =>
vop (extractV v243 1) s246 fun v247 s248 =>
vop (binI .eql v147 (.int .i64 0)) s248 fun v249 s250 =>
p4_3 v249 s250 K v145 v89 s248 v239 v237 v247 v58 v171
def p4_5 (v171 : Value) (v169 : Value) (s172 : Store) (v89 : Value) (v0 : Value) (v12 : Value) (v58 : Value) (v147 : Value) (K : Value → Store → Prop) (v145 : Value) : Prop :=
eop (storeV 2 v171 v169 s172) fun _ s174 =>
lop 1 (fun (n175 : Value → Store → Prop) x176 s177 =>
vop (faddr 0 v89) s177 fun v178 s179 =>
vop (loadV false 1 v178 s179.get) s179 fun v180 s181 =>
vop (lenSl v180) s181 fun v182 s183 =>
vop (binI .lss x176 v182) s183 fun v184 s185 =>
condH v184 (
vop (faddr 0 v0) s185 fun v186 s187 =>
vop (loadV true 2 v186 s185.get) s187 fun v188 _ =>
vop (faddr 3 v12) s187 fun v189 s190 =>
vop (loadV false 1 v189 s185.get) s190 fun v191 _ =>
vop (binI .add v191 (.int .i64 1)) s190 fun v192 s193 =>
p4_1 v192 x176 s193 v188 v171 s185 v89 n175) (
p4_4 v89 s185 v171 v12 v58 v147 K v145)) (.int .i64 0) s174
def p4_6 (v149 : Value) (v147 : Value) (s150 : Store) (K : Value → Store → Prop) (v145 : Value) (v58 : Value) (v0 : Value) (v89 : Value) (v12 : Value) : Prop :=
condH v149 (
vop (binI .eql v147 (.int .i64 4)) s150 fun v151 s152 =>
gop v151 true s152 (fun K => K v145 s152) fun v153 s154 =>
gop v151 true s154 (fun K => vop (binI .eql v153 (.int .i64 0)) s154 K) fun v155 s156 =>
vop (pickV v151 v155 (.bool false)) s156 fun v157 s158 =>
gop v157 true s158 (fun K => K v58 s158) fun v159 s160 =>
gop v157 true s160 (fun K => Does Try.prog 14 [v159] s160 K) fun v161 s162 =>
gop v157 true s162 (fun K => vop (binI .eql v161 (.int .i64 0)) s162 K) fun v163 s164 =>
vop (pickV v157 v163 (.bool false)) s164 fun v165 s166 =>
K v165 s166) (
vop (faddr 0 v0) s150 fun v167 s168 =>
vop (loadV true 2 v167 s168.get) s168 fun v169 s170 =>
nop (some (.cells (unrle [(1, (.int .i64 0)), (1, (.slice none 0 0))]) none, ptrTo)) s170 fun v171 s172 =>
p4_5 v171 v169 s172 v89 v0 v12 v58 v147 K v145)
def p4_7 (v117 : Value) (s128 : Store) (K : Value → Store → Prop) (v123 : Value) (v127 : Value) (v58 : Value) (v12 : Value) (v93 : Value) (v0 : Value) (v89 : Value) : Prop :=
gop v117 false s128 (fun K => vop (pickV v123 v127 (.bool false)) s128 K) fun v129 s130 =>
vop (pickV v117 (.bool true) v129) s130 fun v131 s132 =>
gop v131 false s132 (fun K => K v58 s132) fun v133 s134 =>
gop v131 false s134 (fun K => Does Try.prog 14 [v133] s134 K) fun v135 s136 =>
gop v131 false s136 (fun K => vop (binI .neq v135 (.int .i64 0)) s136 K) fun v137 s138 =>
vop (pickV v131 (.bool true) v137) s138 fun v139 s140 =>
condH v139 (
K (.bool false) s140) (
vop (loadV true 9 v12 s140.get) s140 fun v141 s142 =>
Does Try.prog 26 [v58, v141] s142 fun v143 s144 =>
vop (extractV v143 0) s144 fun v145 s146 =>
vop (extractV v143 1) s146 fun v147 s148 =>
vop (binI .neq v93 (.int .i64 0)) s148 fun v149 s150 =>
p4_6 v149 v147 s150 K v145 v58 v0 v89 v12)
def p4_8 (v101 : Value) (s102 : Store) (v93 : Value) (K : Value → Store → Prop) (v89 : Value) (v58 : Value) (v12 : Value) (v0 : Value) : Prop :=
vop (binI .eql v101 (.int .i64 0)) s102 fun v103 s104 =>
vop (binI .eql v93 (.int .i64 0)) s104 fun v105 s106 =>
gop v105 true s106 (fun K => vop (faddr 0 v89) s106 K) fun v107 s108 =>
gop v105 true s108 (fun K => vop (loadV false 1 v107 s108.get) s108 K) fun v109 s110 =>
gop v105 true s110 (fun K => vop (lenSl v109) s110 K) fun v111 s112 =>
gop v105 true s112 (fun K => vop (binI .eql v111 (.int .i64 0)) s112 K) fun v113 s114 =>
vop (pickV v105 v113 (.bool false)) s114 fun v115 s116 =>
vop (eqB true v103 v115) s116 fun v117 s118 =>
gop v117 false s118 (fun K => K v101 s118) fun v119 s120 =>
gop v117 false s120 (fun K => vop (binI .neq v119 (.int .i64 0)) s120 K) fun v121 s122 =>
gop v117 false s122 (fun K => K v121 s122) fun v123 s124 =>
gop v123 true s124 (fun K => K v101 s124) fun v125 s126 =>
gop v123 true s126 (fun K => vop (binI .neq v125 (.int .i64 4)) s126 K) fun v127 s128 =>
p4_7 v117 s128 K v123 v127 v58 v12 v93 v0 v89
def p4_9 (v79 : Value) (s75 : Store) (s80 : Store) (v78 : Value) (v12 : Value) (v58 : Value) (K : Value → Store → Prop) (v0 : Value) : Prop :=
vop (loadV false 1 v79 s75.get) s80 fun v81 _ =>
Does Try.prog 24 [v78, v81] s80 fun v82 s83 =>
vop (loadV true 9 v12 s83.get) s83 fun v84 _ =>
kop (loadV true 9 v12 s75.get) v84 (
Does Try.prog 23 [v84, v82] s83 fun v85 s86 =>
vop (extractV v85 0) s86 fun v87 s88 =>
nop (some (.cells (unrle [(1, (.slice none 0 0))]) none, ptrTo)) s88 fun v89 s90 =>
eop (storeV 1 v89 v87 s90) fun _ s92 =>
vop (extractV v85 1) s92 fun v93 s94 =>
vop (loadV true 9 v12 s94.get) s94 fun v95 s96 =>
Does Try.prog 25 [v58, v95] s96 fun v97 s98 =>
vop (extractV v97 0) s98 fun _ s100 =>
vop (extractV v97 1) s100 fun v101 s102 =>
p4_8 v101 s102 v93 K v89 v58 v12 v0)
def p4_10 (v56 : Value) (s59 : Store) (K : Value → Store → Prop) (v58 : Value) (v0 : Value) (v12 : Value) : Prop :=
vop (extractV v56 1) s59 fun v60 s61 =>
vop (binI .neq v60 (.int .i64 0)) s61 fun v62 s63 =>
gop v62 false s63 (fun K => K v58 s63) fun v64 s65 =>
gop v62 false s65 (fun K => vop (eqPn false v64 (.pointer none)) s65 K) fun v66 s67 =>
vop (pickV v62 (.bool true) v66) s67 fun v68 s69 =>
gop v68 false s69 (fun K => Does Try.prog 7 [] s69 K) fun v70 s71 =>
gop v68 false s71 (fun K => vop (unV .not v70) s71 K) fun v72 s73 =>
vop (pickV v68 (.bool true) v72) s73 fun v74 s75 =>
condH v74 (
K (.bool false) s75) (
vop (faddr 0 v0) s75 fun v76 s77 =>
vop (loadV true 2 v76 s75.get) s77 fun v78 _ =>
vop (faddr 3 v12) s77 fun v79 s80 =>
p4_9 v79 s75 s80 v78 v12 v58 K v0)
def p4_11 (v34 : Value) (s37 : Store) (K : Value → Store → Prop) (v36 : Value) (v0 : Value) (v12 : Value) : Prop :=
gop v34 false s37 (fun K => vop (faddr 0 v36) s37 K) fun v38 s39 =>
gop v34 false s39 (fun K => vop (loadV false 1 v38 s39.get) s39 K) fun v40 s41 =>
gop v34 false s41 (fun K => vop (faddr 0 v0) s41 K) fun v42 s43 =>
gop v34 false s43 (fun K => vop (faddr 0 v42) s43 K) fun v44 s45 =>
gop v34 false s45 (fun K => vop (loadV false 1 v44 s45.get) s45 K) fun v46 s47 =>
gop v34 false s47 (fun K => vop (binI .gtr v40 v46) s47 K) fun v48 s49 =>
vop (pickV v34 (.bool true) v48) s49 fun v50 s51 =>
condH v50 (
K (.bool true) s51) (
vop (faddr 0 v0) s51 fun v52 s53 =>
vop (loadV true 2 v52 s53.get) s53 fun v54 s55 =>
Does Try.prog 22 [v54] s55 fun v56 s57 =>
vop (extractV v56 0) s57 fun v58 s59 =>
p4_10 v56 s59 K v58 v0 v12)
def p4_12 (s11 : Store) (v8 : Value) (v0 : Value) (K : Value → Store → Prop) (v10 : Value) : Prop :=
nop (some (.cells (unrle [(9, (.int .i64 0))]) none, ptrTo)) s11 fun v12 s13 =>
eop (storeV 9 v12 v8 s13) fun _ s15 =>
vop (loadV true 5 v0 s15.get) s15 fun v16 s17 =>
Does Try.prog 20 [v16] s17 fun v18 s19 =>
gop v18 false s19 (fun K => K v10 s19) fun v20 s21 =>
gop v18 false s21 (fun K => vop (binI .neq v20 (.int .i64 0)) s21 K) fun v22 s23 =>
vop (pickV v18 (.bool true) v22) s23 fun v24 s25 =>
gop v24 false s25 (fun K => vop (faddr 0 v0) s25 K) fun v26 s27 =>
gop v24 false s27 (fun K => vop (loadV true 2 v26 s27.get) s27 K) fun v28 s29 =>
gop v24 false s29 (fun K => Does Try.prog 21 [v28] s29 K) fun v30 s31 =>
gop v24 false s31 (fun K => vop (binI .neq v30 (.int .i64 0)) s31 K) fun v32 s33 =>
vop (pickV v24 (.bool true) v32) s33 fun v34 s35 =>
gop v34 false s35 (fun K => vop (faddr 2 v0) s35 K) fun v36 s37 =>
p4_11 v34 s37 K v36 v0 v12
/-- undercroft/undercroftlaw08.WalHeader -/
def p4 (K : Value → Store → Prop) (a0 : Value) (s : Store) : Prop :=
nop (boxN a0) s fun v0 s1 =>
vop (faddr 2 v0) s1 fun v2 s3 =>
vop (loadV true 3 v2 s3.get) s3 fun v4 s5 =>
Does Try.prog 19 [v4] s5 fun v6 s7 =>
vop (extractV v6 0) s7 fun v8 s9 =>
vop (extractV v6 1) s9 fun v10 s11 =>
p4_12 s11 v8 v0 K v10
theorem e4 (K : Value → Store → Prop) (a0 : Value) (s : Store) : bodyT Try.prog Try.f4 [a0] s K = p4 K a0 s := by kernel_rfl
theorem d4 {K : Value → Store → Prop} {a0 : Value} {s : Store} (h : p4 K a0 s) : Does Try.prog 4 [a0] s K := does_of_print Try.func4 (by kernel_rfl) ((e4 K a0 s).symm ▸ h)
def p7_1 (v180 : Value) (s181 : Store) (K : Value → Store → Prop) (v136 : Value) (v138 : Value) (s173 : Store) (v26 : Value) : Prop :=
gop v180 true s181 (fun K => K v136 s181) fun v182 s183 =>
gop v180 true s183 (fun K => vop (binI .eql v182 (.int .i64 0)) s183 K) fun v184 s185 =>
vop (pickV v180 v184 (.bool false)) s185 fun v186 s187 =>
gop v186 true s187 (fun K => Does Try.prog 11 [(.int .u8 8)] s187 K) fun v188 s189 =>
gop v186 true s189 (fun K => vop (loadV true 1024 v138 s189.get) s189 K) fun v190 _ =>
kop (gsel v186 true (loadV true 1024 v138) s173.get) v190 (
gop v186 true s189 (fun K => vop (eqA (.ints .u8 1024) false v190 v188) s189 K) fun v191 s192 =>
vop (pickV v186 v191 (.bool false)) s192 fun v193 s194 =>
gop v193 true s194 (fun K => Does Try.prog 11 [(.int .u8 2)] s194 K) fun v195 s196 =>
gop v193 true s196 (fun K => K v26 s196) fun v197 s198 =>
gop v193 true s198 (fun K => Does Try.prog 10 [v197, (.int .i64 50), v195] s198 K) fun v199 s200 =>
gop v193 true s200 (fun K => vop (binI .eql v199 (.int .i64 180)) s200 K) fun v201 s202 =>
vop (pickV v193 v201 (.bool false)) s202 fun v203 s204 =>
K v203 s204)
def p7_2 (v154 : Value) (s155 : Store) (K : Value → Store → Prop) (v26 : Value) (v78 : Value) (v130 : Value) (v136 : Value) (v138 : Value) : Prop :=
gop v154 true s155 (fun K => K v26 s155) fun v156 s157 =>
gop v154 true s157 (fun K => Does Try.prog 11 [(.int .u8 2)] s157 K) fun v158 s159 =>
gop v154 true s159 (fun K => Does Try.prog 10 [v156, (.int .i64 51), v158] s159 K) fun v160 s161 =>
gop v154 true s161 (fun K => vop (binI .eql v160 (.int .i64 181)) s161 K) fun v162 s163 =>
vop (pickV v154 v162 (.bool false)) s163 fun v164 s165 =>
gop v164 true s165 (fun K => K v26 s165) fun v166 s167 =>
gop v164 true s167 (fun K => Does Try.prog 12 [v166] s167 K) fun v168 s169 =>
gop v164 true s169 (fun K => vop (binI .eql v168 (.int .i64 0)) s169 K) fun v170 s171 =>
vop (pickV v164 v170 (.bool false)) s171 fun v172 s173 =>
gop v78 true s173 (fun K => K v130 s173) fun v174 s175 =>
vop (pickV v78 v174 (.bool false)) s175 fun v176 s177 =>
gop v176 true s177 (fun K => K v172 s177) fun v178 s179 =>
vop (pickV v176 v178 (.bool false)) s179 fun v180 s181 =>
p7_1 v180 s181 K v136 v138 s173 v26
def p7_3 (v122 : Value) (v128 : Value) (s129 : Store) (v8 : Value) (v26 : Value) (K : Value → Store → Prop) (v78 : Value) : Prop :=
vop (pickV v122 v128 (.bool false)) s129 fun v130 s131 =>
Does Try.prog 35 [v8, (.int .i64 40)] s131 fun v132 s133 =>
vop (extractV v132 0) s133 fun v134 s135 =>
vop (extractV v132 1) s135 fun v136 s137 =>
nop (some (.cells (unrle [(1024, (.int .u8 0))]) none, ptrTo)) s137 fun v138 s139 =>
eop (storeV 1024 v138 v134 s139) fun _ s141 =>
Does Try.prog 8 [v26, (.int .i64 1)] s141 fun v142 s143 =>
vop (binI .eql v142 (.int .i64 0)) s143 fun v144 s145 =>
gop v144 true s145 (fun K => K v26 s145) fun v146 s147 =>
gop v144 true s147 (fun K => Does Try.prog 11 [(.int .u8 2)] s147 K) fun v148 s149 =>
gop v144 true s149 (fun K => Does Try.prog 10 [v146, (.int .i64 50), v148] s149 K) fun v150 s151 =>
gop v144 true s151 (fun K => vop (binI .eql v150 (.int .i64 0)) s151 K) fun v152 s153 =>
vop (pickV v144 v152 (.bool false)) s153 fun v154 s155 =>
p7_2 v154 s155 K v26 v78 v130 v136 v138
def p7_4 (v98 : Value) (s103 : Store) (K : Value → Store → Prop) (v102 : Value) (v8 : Value) (v26 : Value) (v78 : Value) : Prop :=
gop v98 true s103 (fun K => vop (binI .eql v102 (.int .i64 0)) s103 K) fun v104 s105 =>
vop (pickV v98 v104 (.bool false)) s105 fun v106 s107 =>
gop v106 true s107 (fun K => K v8 s107) fun v108 s109 =>
gop v106 true s109 (fun K => Does Try.prog 14 [v108] s109 K) fun v110 s111 =>
gop v106 true s111 (fun K => vop (binI .eql v110 (.int .i64 10)) s111 K) fun v112 s113 =>
vop (pickV v106 v112 (.bool false)) s113 fun v114 s115 =>
gop v114 true s115 (fun K => K v26 s115) fun v116 s117 =>
gop v114 true s117 (fun K => Does Try.prog 34 [v116] s117 K) fun v118 s119 =>
gop v114 true s119 (fun K => vop (binI .eql v118 (.int .i64 1)) s119 K) fun v120 s121 =>
vop (pickV v114 v120 (.bool false)) s121 fun v122 s123 =>
gop v122 true s123 (fun K => K v26 s123) fun v124 s125 =>
gop v122 true s125 (fun K => Does Try.prog 13 [v124] s125 K) fun v126 s127 =>
gop v122 true s127 (fun K => vop (binI .eql v126 (.int .i64 0)) s127 K) fun v128 s129 =>
p7_3 v122 v128 s129 v8 v26 K v78
def p7_5 (v70 : Value) (v76 : Value) (s77 : Store) (v26 : Value) (K : Value → Store → Prop) (v8 : Value) : Prop :=
vop (pickV v70 v76 (.bool false)) s77 fun v78 s79 =>
Does Try.prog 13 [v26] s79 fun v80 s81 =>
vop (binI .eql v80 (.int .i64 2)) s81 fun v82 s83 =>
gop v82 true s83 (fun K => K v26 s83) fun v84 s85 =>
gop v82 true s85 (fun K => Does Try.prog 33 [v84] s85 K) fun v86 s87 =>
gop v82 true s87 (fun K => vop (binI .eql v86 (.int .i64 1)) s87 K) fun v88 s89 =>
vop (pickV v82 v88 (.bool false)) s89 fun v90 s91 =>
gop v90 true s91 (fun K => K v8 s91) fun v92 s93 =>
gop v90 true s93 (fun K => Does Try.prog 14 [v92] s93 K) fun v94 s95 =>
gop v90 true s95 (fun K => vop (binI .eql v94 (.int .i64 0)) s95 K) fun v96 s97 =>
vop (pickV v90 v96 (.bool false)) s97 fun v98 s99 =>
gop v98 true s99 (fun K => K v26 s99) fun v100 s101 =>
gop v98 true s101 (fun K => Does Try.prog 15 [v100] s101 K) fun v102 s103 =>
p7_4 v98 s103 K v102 v8 v26 v78
def p7_6 (v50 : Value) (s51 : Store) (K : Value → Store → Prop) (v26 : Value) (v8 : Value) : Prop :=
gop v50 true s51 (fun K => K v26 s51) fun v52 s53 =>
gop v50 true s53 (fun K => Does Try.prog 11 [(.int .u8 6)] s53 K) fun v54 s55 =>
gop v50 true s55 (fun K => Does Try.prog 10 [v52, (.int .i64 41), v54] s55 K) fun v56 s57 =>
gop v50 true s57 (fun K => vop (binI .eql v56 (.int .i64 0)) s57 K) fun v58 s59 =>
vop (pickV v50 v58 (.bool false)) s59 fun v60 s61 =>
gop v60 true s61 (fun K => K v26 s61) fun v62 s63 =>
gop v60 true s63 (fun K => Does Try.prog 11 [(.int .u8 8)] s63 K) fun v64 s65 =>
gop v60 true s65 (fun K => Does Try.prog 10 [v62, (.int .i64 40), v64] s65 K) fun v66 s67 =>
gop v60 true s67 (fun K => vop (binI .eql v66 (.int .i64 0)) s67 K) fun v68 s69 =>
vop (pickV v60 v68 (.bool false)) s69 fun v70 s71 =>
gop v70 true s71 (fun K => K v26 s71) fun v72 s73 =>
gop v70 true s73 (fun K => Does Try.prog 12 [v72] s73 K) fun v74 s75 =>
gop v70 true s75 (fun K => vop (binI .eql v74 (.int .i64 0)) s75 K) fun v76 s77 =>
p7_5 v70 v76 s77 v26 K v8
def p7_7 (v28 : Value) (s29 : Store) (K : Value → Store → Prop) (v26 : Value) (v8 : Value) : Prop :=
vop (binI .neq v28 (.int .i64 0)) s29 fun v30 s31 =>
gop v30 false s31 (fun K => K v26 s31) fun v32 s33 =>
gop v30 false s33 (fun K => vop (eqPn false v32 (.pointer none)) s33 K) fun v34 s35 =>
vop (pickV v30 (.bool true) v34) s35 fun v36 s37 =>
condH v36 (
K (.bool false) s37) (
Does Try.prog 8 [v26, (.int .i64 23)] s37 fun v38 s39 =>
vop (binI .eql v38 (.int .i64 0)) s39 fun v40 s41 =>
gop v40 true s41 (fun K => K v26 s41) fun v42 s43 =>
gop v40 true s43 (fun K => Does Try.prog 11 [(.int .u8 4)] s43 K) fun v44 s45 =>
gop v40 true s45 (fun K => Does Try.prog 10 [v42, (.int .i64 40), v44] s45 K) fun v46 s47 =>
gop v40 true s47 (fun K => vop (binI .eql v46 (.int .i64 0)) s47 K) fun v48 s49 =>
vop (pickV v40 v48 (.bool false)) s49 fun v50 s51 =>
p7_6 v50 s51 K v26 v8)
def p7_8 (v6 : Value) (s7 : Store) (K : Value → Store → Prop) (v2 : Value) : Prop :=
vop (extractV v6 0) s7 fun v8 s9 =>
vop (extractV v6 1) s9 fun v10 s11 =>
vop (binI .neq v10 (.int .i64 0)) s11 fun v12 s13 =>
gop v12 false s13 (fun K => K v8 s13) fun v14 s15 =>
gop v12 false s15 (fun K => vop (eqPn false v14 (.pointer none)) s15 K) fun v16 s17 =>
vop (pickV v12 (.bool true) v16) s17 fun v18 s19 =>
condH v18 (
K (.bool false) s19) (
vop (loadV true 3 v2 s19.get) s19 fun v20 s21 =>
Does Try.prog 32 [v20, (.int .i64 0)] s21 fun v22 s23 =>
Does Try.prog 25 [v8, v22] s23 fun v24 s25 =>
vop (extractV v24 0) s25 fun v26 s27 =>
vop (extractV v24 1) s27 fun v28 s29 =>
p7_7 v28 s29 K v26 v8)
/-- undercroft/undercroftlaw08.lives -/
def p7 (K : Value → Store → Prop) (s : Store) : Prop :=
vop (aggOf (buildL [(unrle [(1, (.int .i64 0))]), (unrle [(1, (.int .i64 0))]), (unrle [(1, (.int .i64 0))])] [(0, (.int .i64 60)), (1, (.int .i64 32)), (2, (.int .i64 5))])) s fun v0 s1 =>
nop (some (.cells (unrle [(3, (.int .i64 0))]) none, ptrTo)) s1 fun v2 s3 =>
eop (storeV 3 v2 v0 s3) fun _ s5 =>
Does Try.prog 31 [(.int .i64 60)] s5 fun v6 s7 =>
p7_8 v6 s7 K v2
theorem e7 (K : Value → Store → Prop) (s : Store) : bodyT Try.prog Try.f7 [] s K = p7 K s := by kernel_rfl
theorem d7 {K : Value → Store → Prop} {s : Store} (h : p7 K s) : Does Try.prog 7 [] s K := does_of_print Try.func7 (by kernel_rfl) ((e7 K s).symm ▸ h)
def p8_1 (a0 : Value) (s43 : Store) (s31 : Store) (v42 : Value) (K : Value → Store → Prop) (k32 : Store → Prop) : Prop :=
vop (nilV a0) s43 fun v44 s45 =>
vop (faddr 4 v44) s45 fun v46 s47 =>
vop (faddr 0 v46) s47 fun v48 s49 =>
vop (faddr 1 v48) s49 fun v50 s51 =>
vop (loadV false 1 v50 s31.get) s51 fun v52 _ =>
vop (binI .sub v52 (.int .i64 1)) s51 fun v53 s54 =>
vop (binI .gtr v42 v53) s54 fun v55 s56 =>
condH v55 (
Does Try.prog 37 [a0] s56 fun v57 s58 =>
vop (binI .neq v57 (.int .i64 0)) s58 fun v59 s60 =>
condH v59 (
K v57 s60) (
k32 s60)) (
k32 s56)
def p8_2 (a0 : Value) (s31 : Store) (a1 : Value) (K : Value → Store → Prop) : Prop :=
jop 0 (fun (k32 : Store → Prop) =>
vop (nilV a0) s31 fun v33 s34 =>
vop (faddr 0 v33) s34 fun v35 s36 =>
vop (faddr 0 v35) s36 fun v37 s38 =>
vop (loadV false 1 v37 s31.get) s38 fun v39 _ =>
vop (lenSl v39) s38 fun v40 s41 =>
vop (binI .add v40 a1) s41 fun v42 s43 =>
p8_1 a0 s43 s31 v42 K k32) fun s61 =>
nop (some (.map [] 0, fun i => .map (some i))) s61 fun v62 s63 =>
vop (nilV a0) s63 fun v64 s65 =>
vop (faddr 14 v64) s65 fun v66 s67 =>
eop (storeV 1 v66 (.bool true) s67) fun _ s69 =>
vop (nilV a0) s69 fun v70 s71 =>
vop (faddr 15 v70) s71 fun v72 s73 =>
eop (storeV 1 v72 a1 s73) fun _ s75 =>
vop (nilV a0) s75 fun v76 s77 =>
vop (faddr 16 v76) s77 fun v78 s79 =>
eop (storeV 1 v78 v62 s79) fun _ s81 =>
K (.int .i64 0) s81
def p8_3 (a1 : Value) (s9 : Store) (K : Value → Store → Prop) (a0 : Value) : Prop :=
vop (binI .lss a1 (.int .i64 1)) s9 fun v10 s11 =>
gop v10 false s11 (fun K => K a1 s11) fun v12 s13 =>
gop v10 false s13 (fun K => K a0 s13) fun v14 s15 =>
gop v10 false s15 (fun K => vop (nilV v14) s15 K) fun v16 s17 =>
gop v10 false s17 (fun K => vop (faddr 4 v16) s17 K) fun v18 s19 =>
gop v10 false s19 (fun K => vop (faddr 0 v18) s19 K) fun v20 s21 =>
gop v10 false s21 (fun K => vop (faddr 1 v20) s21 K) fun v22 s23 =>
gop v10 false s23 (fun K => vop (loadV false 1 v22 s23.get) s23 K) fun v24 s25 =>
gop v10 false s25 (fun K => vop (binI .sub v24 (.int .i64 1)) s25 K) fun v26 s27 =>
gop v10 false s27 (fun K => vop (binI .gtr v12 v26) s27 K) fun v28 s29 =>
vop (pickV v10 (.bool true) v28) s29 fun v30 s31 =>
condH v30 (
K (.int .i64 2) s31) (
p8_2 a0 s31 a1 K)
/-- (*undercroft/wal.Log).Begin -/
def p8 (K : Value → Store → Prop) (a0 a1 : Value) (s : Store) : Prop :=
Does Try.prog 36 [a0] s fun v0 s1 =>
vop (binI .neq v0 (.int .i64 0)) s1 fun v2 s3 =>
condH v2 (
K v0 s3) (
vop (nilV a0) s3 fun v4 s5 =>
vop (faddr 14 v4) s5 fun v6 s7 =>
vop (loadV false 1 v6 s7.get) s7 fun v8 s9 =>
condH v8 (
K (.int .i64 180) s9) (
p8_3 a1 s9 K a0))
theorem e8 (K : Value → Store → Prop) (a0 a1 : Value) (s : Store) : bodyT Try.prog Try.f8 [a0, a1] s K = p8 K a0 a1 s := by kernel_rfl
theorem d8 {K : Value → Store → Prop} {a0 a1 : Value} {s : Store} (h : p8 K a0 a1 s) : Does Try.prog 8 [a0, a1] s K := does_of_print Try.func8 (by kernel_rfl) ((e8 K a0 a1 s).symm ▸ h)
def p10_1 (v81 : Value) (s78 : Store) (s82 : Store) (v0 : Value) (a1 : Value) (K : Value → Store → Prop) (a0 : Value) : Prop :=
vop (loadV false 1 v81 s78.get) s82 fun v83 _ =>
vop (loadV true 1024 v0 s78.get) s82 fun v84 _ =>
Does Try.prog 39 [v83, a1, v84] s82 fun v85 s86 =>
vop (binI .neq v85 (.int .i64 0)) s86 fun v87 s88 =>
condH v87 (
K v85 s88) (
vop (nilV a0) s88 fun v89 s90 =>
vop (faddr 16 v89) s90 fun v91 s92 =>
vop (loadV false 1 v91 s92.get) s92 fun v93 s94 =>
vop (aggOf (buildL [] [])) s94 fun v95 s96 =>
eop (updH (.int .i64) v93 a1 v95 s96) fun _ s98 =>
vop (nilV a0) s98 fun v99 s100 =>
vop (faddr 0 v99) s100 fun v101 s102 =>
Does Try.prog 40 [v101, a1] s102 fun _ s104 =>
K (.int .i64 0) s104)
def p10_2 (v58 : Value) (s63 : Store) (K : Value → Store → Prop) (v62 : Value) (s57 : Store) (a0 : Value) (v0 : Value) (a1 : Value) : Prop :=
gop v58 true s63 (fun K => vop (faddr 16 v62) s63 K) fun v64 s65 =>
gop v58 true s65 (fun K => vop (loadV false 1 v64 s57.get) s65 K) fun v66 _ =>
gop v58 true s65 (fun K => vop (lenMap v66 s57.get) s65 K) fun v67 _ =>
gop v58 true s65 (fun K => K a0 s65) fun v68 s69 =>
gop v58 true s69 (fun K => vop (nilV v68) s69 K) fun v70 s71 =>
gop v58 true s71 (fun K => vop (faddr 15 v70) s71 K) fun v72 s73 =>
gop v58 true s73 (fun K => vop (loadV false 1 v72 s57.get) s73 K) fun v74 _ =>
gop v58 true s73 (fun K => vop (binI .geq v67 v74) s73 K) fun v75 s76 =>
vop (pickV v58 v75 (.bool false)) s76 fun v77 s78 =>
condH v77 (
K (.int .i64 181) s78) (
vop (nilV a0) s78 fun v79 s80 =>
vop (faddr 3 v79) s80 fun v81 s82 =>
p10_1 v81 s78 s82 v0 a1 K a0)
def p10_3 (v40 : Value) (K : Value → Store → Prop) (s41 : Store) (a0 : Value) (a1 : Value) (v0 : Value) : Prop :=
condH v40 (
K (.int .i64 2) s41) (
vop (nilV a0) s41 fun v42 s43 =>
vop (faddr 16 v42) s43 fun v44 s45 =>
vop (loadV false 1 v44 s45.get) s45 fun v46 s47 =>
vop (lookupH (.int .i64) (.agg (unrle []).toArray) v46 a1 true s47.get) s47 fun v48 s49 =>
vop (extractV v48 0) s49 fun v50 s51 =>
vop (extractV v48 1) s51 fun v52 s53 =>
nop (some (.cells (unrle []) none, ptrTo)) s53 fun v54 s55 =>
eop (storeV 0 v54 v50 s55) fun _ s57 =>
vop (unV .not v52) s57 fun v58 s59 =>
gop v58 true s59 (fun K => K a0 s59) fun v60 s61 =>
gop v58 true s61 (fun K => vop (nilV v60) s61 K) fun v62 s63 =>
p10_2 v58 s63 K v62 s57 a0 v0 a1)
def p10_4 (v14 : Value) (s15 : Store) (K : Value → Store → Prop) (a1 : Value) (a0 : Value) (v0 : Value) : Prop :=
gop v14 false s15 (fun K => K a1 s15) fun v16 s17 =>
gop v14 false s17 (fun K => K a0 s17) fun v18 s19 =>
gop v14 false s19 (fun K => vop (nilV v18) s19 K) fun v20 s21 =>
gop v14 false s21 (fun K => vop (faddr 4 v20) s21 K) fun v22 s23 =>
gop v14 false s23 (fun K => vop (faddr 0 v22) s23 K) fun v24 s25 =>
gop v14 false s25 (fun K => vop (faddr 0 v24) s25 K) fun v26 s27 =>
gop v14 false s27 (fun K => vop (loadV false 1 v26 s27.get) s27 K) fun v28 s29 =>
gop v14 false s29 (fun K => vop (binI .geq v16 v28) s29 K) fun v30 s31 =>
vop (pickV v14 (.bool true) v30) s31 fun v32 s33 =>
gop v32 false s33 (fun K => K a0 s33) fun v34 s35 =>
gop v32 false s35 (fun K => K a1 s35) fun v36 s37 =>
gop v32 false s37 (fun K => Does Try.prog 38 [v34, v36] s37 K) fun v38 s39 =>
vop (pickV v32 (.bool true) v38) s39 fun v40 s41 =>
p10_3 v40 K s41 a0 a1 v0
/-- (*undercroft/wal.Log).Write -/
def p10 (K : Value → Store → Prop) (a0 a1 a2 : Value) (s : Store) : Prop :=
nop (boxN a2) s fun v0 s1 =>
Does Try.prog 36 [a0] s1 fun v2 s3 =>
vop (binI .neq v2 (.int .i64 0)) s3 fun v4 s5 =>
condH v4 (
K v2 s5) (
vop (nilV a0) s5 fun v6 s7 =>
vop (faddr 14 v6) s7 fun v8 s9 =>
vop (loadV false 1 v8 s9.get) s9 fun v10 s11 =>
vop (unV .not v10) s11 fun v12 s13 =>
condH v12 (
K (.int .i64 180) s13) (
vop (binI .lss a1 (.int .i64 1)) s13 fun v14 s15 =>
p10_4 v14 s15 K a1 a0 v0))
theorem e10 (K : Value → Store → Prop) (a0 a1 a2 : Value) (s : Store) : bodyT Try.prog Try.f10 [a0, a1, a2] s K = p10 K a0 a1 a2 s := by kernel_rfl
theorem d10 {K : Value → Store → Prop} {a0 a1 a2 : Value} {s : Store} (h : p10 K a0 a1 a2 s) : Does Try.prog 10 [a0, a1, a2] s K := does_of_print Try.func10 (by kernel_rfl) ((e10 K a0 a1 a2 s).symm ▸ h)
/-- undercroft/undercroftlaw08.block -/
def p11 (K : Value → Store → Prop) (a0 : Value) (s : Store) : Prop :=
nop (some (.cells (unrle [(1024, (.int .u8 0))]) none, ptrTo)) s fun v0 s1 =>
nop (some (.cells (unrle [(1024, (.int .u8 0))]) none, ptrTo)) s1 fun v2 s3 =>
vop (iaddrA 1024 1 v2 (.int .i64 0)) s3 fun v4 s5 =>
eop (storeV 1 v4 a0 s5) fun _ s7 =>
vop (binI .quo a0 (.int .u8 2)) s7 fun v8 s9 =>
vop (iaddrA 1024 1 v2 (.int .i64 1023)) s9 fun v10 s11 =>
eop (storeV 1 v10 v8 s11) fun _ s13 =>
vop (loadV true 1024 v2 s13.get) s13 fun v14 s15 =>
eop (storeV 1024 v0 v14 s15) fun _ s17 =>
vop (loadV true 1024 v0 s17.get) s17 fun v18 _ =>
K v18 s17
theorem e11 (K : Value → Store → Prop) (a0 : Value) (s : Store) : bodyT Try.prog Try.f11 [a0] s K = p11 K a0 s := by kernel_rfl
theorem d11 {K : Value → Store → Prop} {a0 : Value} {s : Store} (h : p11 K a0 s) : Does Try.prog 11 [a0] s K := does_of_print Try.func11 (by kernel_rfl) ((e11 K a0 s).symm ▸ h)
/-- (*undercroft/wal.Log).End -/
def p12 (K : Value → Store → Prop) (a0 : Value) (s : Store) : Prop :=
Does Try.prog 36 [a0] s fun v0 s1 =>
vop (binI .neq v0 (.int .i64 0)) s1 fun v2 s3 =>
condH v2 (
K v0 s3) (
vop (nilV a0) s3 fun v4 s5 =>
vop (faddr 14 v4) s5 fun v6 s7 =>
vop (loadV false 1 v6 s7.get) s7 fun v8 s9 =>
vop (unV .not v8) s9 fun v10 s11 =>
condH v10 (
K (.int .i64 180) s11) (
vop (nilV a0) s11 fun v12 s13 =>
vop (faddr 14 v12) s13 fun v14 s15 =>
eop (storeV 1 v14 (.bool false) s15) fun _ s17 =>
vop (nilV a0) s17 fun v18 s19 =>
vop (faddr 18 v18) s19 fun v20 s21 =>
vop (loadV false 1 v20 s21.get) s21 fun v22 s23 =>
vop (binI .add v22 (.int .i64 1)) s23 fun v24 s25 =>
vop (nilV a0) s25 fun v26 s27 =>
vop (faddr 18 v26) s27 fun v28 s29 =>
eop (storeV 1 v28 v24 s29) fun _ s31 =>
K (.int .i64 0) s31))
theorem e12 (K : Value → Store → Prop) (a0 : Value) (s : Store) : bodyT Try.prog Try.f12 [a0] s K = p12 K a0 s := by kernel_rfl
theorem d12 {K : Value → Store → Prop} {a0 : Value} {s : Store} (h : p12 K a0 s) : Does Try.prog 12 [a0] s K := does_of_print Try.func12 (by kernel_rfl) ((e12 K a0 s).symm ▸ h)
/-- (*undercroft/wal.Log).Used -/
def p13 (K : Value → Store → Prop) (a0 : Value) (s : Store) : Prop :=
Does Try.prog 36 [a0] s fun v0 s1 =>
vop (binI .neq v0 (.int .i64 0)) s1 fun v2 s3 =>
condH v2 (
K (.int .i64 0) s3) (
vop (nilV a0) s3 fun v4 s5 =>
vop (faddr 0 v4) s5 fun v6 s7 =>
vop (faddr 0 v6) s7 fun v8 s9 =>
vop (loadV false 1 v8 s9.get) s9 fun v10 s11 =>
vop (lenSl v10) s11 fun v12 s13 =>
K v12 s13)
theorem e13 (K : Value → Store → Prop) (a0 : Value) (s : Store) : bodyT Try.prog Try.f13 [a0] s K = p13 K a0 s := by kernel_rfl
theorem d13 {K : Value → Store → Prop} {a0 : Value} {s : Store} (h : p13 K a0 s) : Does Try.prog 13 [a0] s K := does_of_print Try.func13 (by kernel_rfl) ((e13 K a0 s).symm ▸ h)
/-- (*undercroft/disk.Disk).Made -/
def p14 (K : Value → Store → Prop) (a0 : Value) (s : Store) : Prop :=
Does Try.prog 41 [a0] s fun v0 s1 =>
vop (unV .not v0) s1 fun v2 s3 =>
condH v2 (
K (.int .i64 0) s3) (
vop (nilV a0) s3 fun v4 s5 =>
vop (faddr 7 v4) s5 fun v6 s7 =>
vop (loadV false 1 v6 s7.get) s7 fun v8 s9 =>
K v8 s9)
theorem e14 (K : Value → Store → Prop) (a0 : Value) (s : Store) : bodyT Try.prog Try.f14 [a0] s K = p14 K a0 s := by kernel_rfl
theorem d14 {K : Value → Store → Prop} {a0 : Value} {s : Store} (h : p14 K a0 s) : Does Try.prog 14 [a0] s K := does_of_print Try.func14 (by kernel_rfl) ((e14 K a0 s).symm ▸ h)
/-- (*undercroft/wal.Log).Sync -/
def p15 (K : Value → Store → Prop) (a0 : Value) (s : Store) : Prop :=
Does Try.prog 36 [a0] s fun v0 s1 =>
vop (binI .neq v0 (.int .i64 0)) s1 fun v2 s3 =>
condH v2 (
K v0 s3) (
vop (nilV a0) s3 fun v4 s5 =>
vop (faddr 14 v4) s5 fun v6 s7 =>
vop (loadV false 1 v6 s7.get) s7 fun v8 s9 =>
condH v8 (
K (.int .i64 180) s9) (
vop (nilV a0) s9 fun v10 s11 =>
vop (faddr 0 v10) s11 fun v12 s13 =>
vop (faddr 0 v12) s13 fun v14 s15 =>
vop (loadV false 1 v14 s15.get) s15 fun v16 s17 =>
vop (lenSl v16) s17 fun v18 s19 =>
vop (binI .eql v18 (.int .i64 0)) s19 fun v20 s21 =>
condH v20 (
K (.int .i64 0) s21) (
Does Try.prog 37 [a0] s21 fun v22 s23 =>
K v22 s23)))
theorem e15 (K : Value → Store → Prop) (a0 : Value) (s : Store) : bodyT Try.prog Try.f15 [a0] s K = p15 K a0 s := by kernel_rfl
theorem d15 {K : Value → Store → Prop} {a0 : Value} {s : Store} (h : p15 K a0 s) : Does Try.prog 15 [a0] s K := does_of_print Try.func15 (by kernel_rfl) ((e15 K a0 s).symm ▸ h)
def p16_1 (v57 : Value) (v50 : Value) (x55 : Value) (s58 : Store) (v44 : Value) (n54 : Value → Store → Prop) (v4 : Value) (K : Value → Store → Prop) : Prop :=
condH v57 (
vop (iaddrS 1 v50 x55) s58 fun v59 s60 =>
vop (loadV false 1 v59 s60.get) s60 fun v61 s62 =>
vop (loadV true 1024 v44 s62.get) s62 fun v63 s64 =>
vop (binI .add x55 (.int .i64 1)) s64 fun v65 s66 =>
vop (binI .mul (.int .i64 4) v65) s66 fun v67 s68 =>
vop (convI .u32 v61) s68 fun v69 s70 =>
Does Try.prog 44 [v63, v67, v69] s70 fun v71 s72 =>
eop (storeV 1024 v44 v71 s72) fun _ s74 =>
vop (binI .add x55 (.int .i64 1)) s74 fun v75 s76 =>
n54 v75 s76) (
vop (loadV true 1024 v44 s58.get) s58 fun v77 s78 =>
eop (storeV 1024 v4 v77 s78) fun _ s80 =>
vop (loadV true 1024 v4 s80.get) s80 fun v81 _ =>
K (.tuple #[v81, (.int .i64 0)]) s80)
def p16_2 (s26 : Store) (v2 : Value) (v4 : Value) (K : Value → Store → Prop) : Prop :=
vop (aggOf (buildL (List.replicate 1024 (unrle [(1, (.int .u8 0))])) [])) s26 fun v32 s33 =>
vop (faddr 0 v2) s33 fun v34 s35 =>
vop (loadV false 1 v34 s35.get) s35 fun v36 s37 =>
vop (lenSl v36) s37 fun v38 s39 =>
vop (convI .u32 v38) s39 fun v40 s41 =>
Does Try.prog 44 [v32, (.int .i64 0), v40] s41 fun v42 s43 =>
nop (some (.cells (unrle [(1024, (.int .u8 0))]) none, ptrTo)) s43 fun v44 s45 =>
eop (storeV 1024 v44 v42 s45) fun _ s47 =>
vop (faddr 0 v2) s47 fun v48 s49 =>
vop (loadV false 1 v48 s49.get) s49 fun v50 s51 =>
vop (lenSl v50) s51 fun v52 s53 =>
lop 1 (fun (n54 : Value → Store → Prop) x55 s56 =>
vop (binI .lss x55 v52) s56 fun v57 s58 =>
p16_1 v57 v50 x55 s58 v44 n54 v4 K) (.int .i64 0) s53
def p16_3 (v10 : Value) (s11 : Store) (v4 : Value) (K : Value → Store → Prop) (v0 : Value) (v2 : Value) : Prop :=
condH v10 (
vop (aggOf (buildL (List.replicate 1024 (unrle [(1, (.int .u8 0))])) [])) s11 fun v12 s13 =>
eop (storeV 1024 v4 v12 s13) fun _ s15 =>
vop (loadV true 1024 v4 s15.get) s15 fun v16 _ =>
K (.tuple #[v16, (.int .i64 2)]) s15) (
vop (loadV true 9 v0 s11.get) s11 fun v17 s18 =>
vop (faddr 0 v2) s18 fun v19 s20 =>
vop (loadV false 1 v19 s20.get) s20 fun v21 s22 =>
Does Try.prog 43 [v17, v21] s22 fun v23 s24 =>
vop (unV .not v23) s24 fun v25 s26 =>
condH v25 (
vop (aggOf (buildL (List.replicate 1024 (unrle [(1, (.int .u8 0))])) [])) s26 fun v27 s28 =>
eop (storeV 1024 v4 v27 s28) fun _ s30 =>
vop (loadV true 1024 v4 s30.get) s30 fun v31 _ =>
K (.tuple #[v31, (.int .i64 4)]) s30) (
p16_2 s26 v2 v4 K))
/-- undercroft/head.Encode -/
def p16 (K : Value → Store → Prop) (a0 a1 : Value) (s : Store) : Prop :=
nop (boxN a0) s fun v0 s1 =>
nop (boxN a1) s1 fun v2 s3 =>
nop (some (.cells (unrle [(1024, (.int .u8 0))]) none, ptrTo)) s3 fun v4 s5 =>
vop (loadV true 9 v0 s5.get) s5 fun v6 s7 =>
Does Try.prog 42 [v6] s7 fun v8 s9 =>
vop (unV .not v8) s9 fun v10 s11 =>
p16_3 v10 s11 v4 K v0 v2
theorem e16 (K : Value → Store → Prop) (a0 a1 : Value) (s : Store) : bodyT Try.prog Try.f16 [a0, a1] s K = p16 K a0 a1 s := by kernel_rfl
theorem d16 {K : Value → Store → Prop} {a0 a1 : Value} {s : Store} (h : p16 K a0 a1 s) : Does Try.prog 16 [a0, a1] s K := does_of_print Try.func16 (by kernel_rfl) ((e16 K a0 a1 s).symm ▸ h)
def p19_1 (v65 : Value) (s146 : Store) (v0 : Value) (v2 : Value) (K : Value → Store → Prop) : Prop :=
vop (faddr 8 v65) s146 fun v147 s148 =>
vop (loadV false 1 v147 s148.get) s148 fun v149 s150 =>
vop (faddr 0 v0) s150 fun v151 s152 =>
vop (loadV false 1 v151 s152.get) s152 fun v153 s154 =>
vop (binI .geq v149 v153) s154 fun v155 s156 =>
condH v155 (
vop (aggOf (buildL [(unrle [(3, (.int .i64 0))]), (unrle [(1, (.int .i64 0))]), (unrle [(1, (.int .i64 0))]), (unrle [(1, (.int .i64 0))]), (unrle [(1, (.int .i64 0))]), (unrle [(1, (.int .i64 0))]), (unrle [(1, (.int .i64 0))])] [])) s156 fun v157 s158 =>
eop (storeV 9 v2 v157 s158) fun _ s160 =>
vop (loadV true 9 v2 s160.get) s160 fun v161 _ =>
K (.tuple #[v161, (.int .i64 2)]) s160) (
vop (loadV true 9 v65 s156.get) s156 fun v162 s163 =>
eop (storeV 9 v2 v162 s163) fun _ s165 =>
vop (loadV true 9 v2 s165.get) s165 fun v166 _ =>
K (.tuple #[v166, (.int .i64 0)]) s165)
def p19_2 (v121 : Value) (v65 : Value) (s122 : Store) (n109 : Store → Prop) (v0 : Value) (v2 : Value) (K : Value → Store → Prop) : Prop :=
condH v121 (
vop (faddr 7 v65) s122 fun v123 s124 =>
vop (loadV false 1 v123 s124.get) s124 fun v125 s126 =>
vop (binI .add v125 (.int .i64 1)) s126 fun v127 s128 =>
vop (faddr 7 v65) s128 fun v129 s130 =>
eop (storeV 1 v129 v127 s130) fun _ s132 =>
n109 s132) (
vop (faddr 6 v65) s122 fun v133 s134 =>
vop (loadV false 1 v133 s134.get) s134 fun v135 s136 =>
vop (faddr 7 v65) s136 fun v137 s138 =>
vop (loadV false 1 v137 s138.get) s138 fun v139 s140 =>
vop (binI .add v135 v139) s140 fun v141 s142 =>
vop (faddr 8 v65) s142 fun v143 s144 =>
eop (storeV 1 v143 v141 s144) fun _ s146 =>
p19_1 v65 s146 v0 v2 K)
def p19_3 (v95 : Value) (s96 : Store) (v65 : Value) (v0 : Value) (v2 : Value) (K : Value → Store → Prop) : Prop :=
vop (loadV false 1 v95 s96.get) s96 fun v97 s98 =>
vop (faddr 5 v65) s98 fun v99 s100 =>
vop (loadV false 1 v99 s100.get) s100 fun v101 s102 =>
vop (binI .add v97 v101) s102 fun v103 s104 =>
vop (faddr 6 v65) s104 fun v105 s106 =>
eop (storeV 1 v105 v103 s106) fun _ s108 =>
lop 0 (fun (n109 : Store → Prop) s110 =>
vop (faddr 7 v65) s110 fun v111 s112 =>
vop (loadV false 1 v111 s112.get) s112 fun v113 s114 =>
vop (binI .mul (.int .i64 8192) v113) s114 fun v115 s116 =>
vop (faddr 0 v0) s116 fun v117 s118 =>
vop (loadV false 1 v117 s118.get) s118 fun v119 s120 =>
vop (binI .lss v115 v119) s120 fun v121 s122 =>
p19_2 v121 v65 s122 n109 v0 v2 K) s108
def p19_4 (v73 : Value) (s74 : Store) (v0 : Value) (v65 : Value) (n69 : Store → Prop) (v2 : Value) (K : Value → Store → Prop) : Prop :=
vop (binI .mul (.int .i64 16) v73) s74 fun v75 s76 =>
vop (faddr 2 v0) s76 fun v77 s78 =>
vop (loadV false 1 v77 s78.get) s78 fun v79 s80 =>
vop (binI .add v79 (.int .i64 1)) s80 fun v81 s82 =>
vop (binI .lss v75 v81) s82 fun v83 s84 =>
condH v83 (
vop (faddr 5 v65) s84 fun v85 s86 =>
vop (loadV false 1 v85 s86.get) s86 fun v87 s88 =>
vop (binI .add v87 (.int .i64 1)) s88 fun v89 s90 =>
vop (faddr 5 v65) s90 fun v91 s92 =>
eop (storeV 1 v91 v89 s92) fun _ s94 =>
n69 s94) (
vop (faddr 4 v65) s84 fun v95 s96 =>
p19_3 v95 s96 v65 v0 v2 K)
def p19_5 (v48 : Value) (s49 : Store) (v2 : Value) (K : Value → Store → Prop) (v0 : Value) : Prop :=
condH v48 (
vop (aggOf (buildL [(unrle [(3, (.int .i64 0))]), (unrle [(1, (.int .i64 0))]), (unrle [(1, (.int .i64 0))]), (unrle [(1, (.int .i64 0))]), (unrle [(1, (.int .i64 0))]), (unrle [(1, (.int .i64 0))]), (unrle [(1, (.int .i64 0))])] [])) s49 fun v50 s51 =>
eop (storeV 9 v2 v50 s51) fun _ s53 =>
vop (loadV true 9 v2 s53.get) s53 fun v54 _ =>
K (.tuple #[v54, (.int .i64 2)]) s53) (
vop (loadV true 3 v0 s49.get) s49 fun v55 s56 =>
vop (faddr 1 v0) s56 fun v57 s58 =>
vop (loadV false 1 v57 s58.get) s58 fun v59 s60 =>
vop (binI .add (.int .i64 1) v59) s60 fun v61 s62 =>
vop (aggOf (buildL [(unrle [(3, (.int .i64 0))]), (unrle [(1, (.int .i64 0))]), (unrle [(1, (.int .i64 0))]), (unrle [(1, (.int .i64 0))]), (unrle [(1, (.int .i64 0))]), (unrle [(1, (.int .i64 0))]), (unrle [(1, (.int .i64 0))])] [(0, v55), (1, (.int .i64 1)), (2, v61)])) s62 fun v63 s64 =>
nop (some (.cells (unrle [(9, (.int .i64 0))]) none, ptrTo)) s64 fun v65 s66 =>
eop (storeV 9 v65 v63 s66) fun _ s68 =>
lop 0 (fun (n69 : Store → Prop) s70 =>
vop (faddr 5 v65) s70 fun v71 s72 =>
vop (loadV false 1 v71 s72.get) s72 fun v73 s74 =>
p19_4 v73 s74 v0 v65 n69 v2 K) s68)
def p19_6 (v16 : Value) (v22 : Value) (s23 : Store) (K : Value → Store → Prop) (v0 : Value) (v2 : Value) : Prop :=
vop (pickV v16 (.bool true) v22) s23 fun v24 s25 =>
gop v24 false s25 (fun K => vop (faddr 2 v0) s25 K) fun v26 s27 =>
gop v24 false s27 (fun K => vop (loadV false 1 v26 s27.get) s27 K) fun v28 s29 =>
gop v24 false s29 (fun K => vop (binI .gtr v28 (.int .i64 65535)) s29 K) fun v30 s31 =>
vop (pickV v24 (.bool true) v30) s31 fun v32 s33 =>
gop v32 false s33 (fun K => vop (faddr 0 v0) s33 K) fun v34 s35 =>
gop v32 false s35 (fun K => vop (loadV false 1 v34 s35.get) s35 K) fun v36 s37 =>
gop v32 false s37 (fun K => vop (binI .gtr v36 (.int .i64 1048576)) s37 K) fun v38 s39 =>
vop (pickV v32 (.bool true) v38) s39 fun v40 s41 =>
gop v40 false s41 (fun K => vop (faddr 0 v0) s41 K) fun v42 s43 =>
gop v40 false s43 (fun K => vop (loadV false 1 v42 s43.get) s43 K) fun v44 s45 =>
gop v40 false s45 (fun K => vop (binI .lss v44 (.int .i64 1)) s45 K) fun v46 s47 =>
vop (pickV v40 (.bool true) v46) s47 fun v48 s49 =>
p19_5 v48 s49 v2 K v0
/-- undercroft/undercroftref03.Of -/
def p19 (K : Value → Store → Prop) (a0 : Value) (s : Store) : Prop :=
nop (boxN a0) s fun v0 s1 =>
nop (some (.cells (unrle [(9, (.int .i64 0))]) none, ptrTo)) s1 fun v2 s3 =>
vop (faddr 1 v0) s3 fun v4 s5 =>
vop (loadV false 1 v4 s5.get) s5 fun v6 s7 =>
vop (binI .lss v6 (.int .i64 32)) s7 fun v8 s9 =>
gop v8 false s9 (fun K => vop (faddr 1 v0) s9 K) fun v10 s11 =>
gop v8 false s11 (fun K => vop (loadV false 1 v10 s11.get) s11 K) fun v12 s13 =>
gop v8 false s13 (fun K => vop (binI .gtr v12 (.int .i64 256)) s13 K) fun v14 s15 =>
vop (pickV v8 (.bool true) v14) s15 fun v16 s17 =>
gop v16 false s17 (fun K => vop (faddr 2 v0) s17 K) fun v18 s19 =>
gop v16 false s19 (fun K => vop (loadV false 1 v18 s19.get) s19 K) fun v20 s21 =>
gop v16 false s21 (fun K => vop (binI .lss v20 (.int .i64 1)) s21 K) fun v22 s23 =>
p19_6 v16 v22 s23 K v0 v2
theorem e19 (K : Value → Store → Prop) (a0 : Value) (s : Store) : bodyT Try.prog Try.f19 [a0] s K = p19 K a0 s := by kernel_rfl
theorem d19 {K : Value → Store → Prop} {a0 : Value} {s : Store} (h : p19 K a0 s) : Does Try.prog 19 [a0] s K := does_of_print Try.func19 (by kernel_rfl) ((e19 K a0 s).symm ▸ h)
/-- undercroft/undercroftlaw08.large -/
def p20 (K : Value → Store → Prop) (a0 : Value) (s : Store) : Prop :=
nop (boxN a0) s fun v0 s1 =>
vop (faddr 0 v0) s1 fun v2 s3 =>
vop (faddr 0 v2) s3 fun v4 s5 =>
vop (loadV false 1 v4 s5.get) s5 fun v6 s7 =>
vop (binI .gtr v6 (.int .i64 300)) s7 fun v8 s9 =>
gop v8 false s9 (fun K => vop (faddr 0 v0) s9 K) fun v10 s11 =>
gop v8 false s11 (fun K => vop (faddr 1 v10) s11 K) fun v12 s13 =>
gop v8 false s13 (fun K => vop (loadV false 1 v12 s13.get) s13 K) fun v14 s15 =>
gop v8 false s15 (fun K => vop (lenSl v14) s15 K) fun v16 s17 =>
gop v8 false s17 (fun K => vop (binI .gtr v16 (.int .i64 300)) s17 K) fun v18 s19 =>
vop (pickV v8 (.bool true) v18) s19 fun v20 s21 =>
K v20 s21
theorem e20 (K : Value → Store → Prop) (a0 : Value) (s : Store) : bodyT Try.prog Try.f20 [a0] s K = p20 K a0 s := by kernel_rfl
theorem d20 {K : Value → Store → Prop} {a0 : Value} {s : Store} (h : p20 K a0 s) : Does Try.prog 20 [a0] s K := does_of_print Try.func20 (by kernel_rfl) ((e20 K a0 s).symm ▸ h)
def p21_1 (v46 : Value) (s53 : Store) (K : Value → Store → Prop) (v52 : Value) (v50 : Value) (v38 : Value) (v16 : Value) (x20 : Value) (n18 : Value → Value → Store → Prop) : Prop :=
gop v46 false s53 (fun K => vop (loadV false 1 v52 s53.get) s53 K) fun v54 s55 =>
gop v46 false s55 (fun K => vop (binI .geq v50 v54) s55 K) fun v56 s57 =>
vop (pickV v46 (.bool true) v56) s57 fun v58 s59 =>
gop v58 false s59 (fun K => vop (faddr 1 v38) s59 K) fun v60 s61 =>
gop v58 false s61 (fun K => vop (loadV true 1024 v60 s61.get) s61 K) fun v62 s63 =>
gop v58 false s63 (fun K => vop (loadV true 1024 v16 s63.get) s63 K) fun v64 s65 =>
gop v58 false s65 (fun K => vop (eqA (.ints .u8 1024) false v62 v64) s65 K) fun v66 s67 =>
vop (pickV v58 (.bool true) v66) s67 fun v68 s69 =>
condH v68 (
K (.int .i64 2) s69) (
vop (faddr 0 v38) s69 fun v70 s71 =>
vop (loadV false 1 v70 s71.get) s71 fun v72 s73 =>
vop (binI .add x20 (.int .i64 1)) s73 fun v74 s75 =>
n18 v72 v74 s75)
def p21_2 (v28 : Value) (v0 : Value) (s29 : Store) (x20 : Value) (x19 : Value) (K : Value → Store → Prop) (v16 : Value) (n18 : Value → Value → Store → Prop) : Prop :=
condH v28 (
vop (faddr 1 v0) s29 fun v30 s31 =>
vop (loadV false 1 v30 s31.get) s31 fun v32 s33 =>
vop (iaddrS 1025 v32 x20) s33 fun v34 s35 =>
vop (loadV true 1025 v34 s35.get) s35 fun v36 s37 =>
nop (some (.cells (unrle [(1, (.int .i64 0)), (1024, (.int .u8 0))]) none, ptrTo)) s37 fun v38 s39 =>
eop (storeV 1025 v38 v36 s39) fun _ s41 =>
vop (faddr 0 v38) s41 fun v42 s43 =>
vop (loadV false 1 v42 s43.get) s43 fun v44 s45 =>
vop (binI .leq v44 x19) s45 fun v46 s47 =>
gop v46 false s47 (fun K => vop (faddr 0 v38) s47 K) fun v48 s49 =>
gop v46 false s49 (fun K => vop (loadV false 1 v48 s49.get) s49 K) fun v50 s51 =>
gop v46 false s51 (fun K => vop (faddr 0 v0) s51 K) fun v52 s53 =>
p21_1 v46 s53 K v52 v50 v38 v16 x20 n18) (
K (.int .i64 0) s29)
def p21_3 (v4 : Value) (s5 : Store) (K : Value → Store → Prop) (v0 : Value) : Prop :=
vop (binI .lss v4 (.int .i64 1)) s5 fun v6 s7 =>
gop v6 false s7 (fun K => vop (faddr 0 v0) s7 K) fun v8 s9 =>
gop v6 false s9 (fun K => vop (loadV false 1 v8 s9.get) s9 K) fun v10 s11 =>
gop v6 false s11 (fun K => vop (binI .gtr v10 (.int .i64 1048576)) s11 K) fun v12 s13 =>
vop (pickV v6 (.bool true) v12) s13 fun v14 s15 =>
condH v14 (
K (.int .i64 2) s15) (
nop (some (.cells (unrle [(1024, (.int .u8 0))]) none, ptrTo)) s15 fun v16 s17 =>
lop 2 (fun (n18 : Value → Value → Store → Prop) x19 x20 s21 =>
vop (faddr 1 v0) s21 fun v22 s23 =>
vop (loadV false 1 v22 s23.get) s23 fun v24 s25 =>
vop (lenSl v24) s25 fun v26 s27 =>
vop (binI .lss x20 v26) s27 fun v28 s29 =>
p21_2 v28 v0 s29 x20 x19 K v16 n18) (.int .i64 (-1)) (.int .i64 0) s17)
/-- undercroft/undercroftref05.Whole -/
def p21 (K : Value → Store → Prop) (a0 : Value) (s : Store) : Prop :=
nop (boxN a0) s fun v0 s1 =>
vop (faddr 0 v0) s1 fun v2 s3 =>
vop (loadV false 1 v2 s3.get) s3 fun v4 s5 =>
p21_3 v4 s5 K v0
theorem e21 (K : Value → Store → Prop) (a0 : Value) (s : Store) : bodyT Try.prog Try.f21 [a0] s K = p21 K a0 s := by kernel_rfl
theorem d21 {K : Value → Store → Prop} {a0 : Value} {s : Store} (h : p21 K a0 s) : Does Try.prog 21 [a0] s K := does_of_print Try.func21 (by kernel_rfl) ((e21 K a0 s).symm ▸ h)
def p22_1 (v60 : Value) (K : Value → Store → Prop) (s61 : Store) (v8 : Value) (v30 : Value) (x22 : Value) (n20 : Value → Value → Store → Prop) : Prop :=
condH v60 (
K (.tuple #[(.pointer none), (.int .i64 4)]) s61) (
vop (nilV v8) s61 fun v62 s63 =>
vop (faddr 1 v62) s63 fun v64 s65 =>
vop (loadV false 1 v64 s61.get) s65 fun v66 _ =>
vop (faddr 0 v30) s65 fun v67 s68 =>
vop (loadV false 1 v67 s61.get) s68 fun v69 _ =>
vop (faddr 1 v30) s68 fun v70 s71 =>
vop (loadV true 1024 v70 s61.get) s71 fun v72 _ =>
eop (updH (.int .i64) v66 v69 v72 s71) fun _ s74 =>
vop (faddr 0 v30) s74 fun v75 s76 =>
vop (loadV false 1 v75 s76.get) s76 fun v77 s78 =>
vop (binI .add x22 (.int .i64 1)) s78 fun v79 s80 =>
n20 v77 v79 s80)
def p22_2 (v34 : Value) (s35 : Store) (x21 : Value) (K : Value → Store → Prop) (v30 : Value) (v0 : Value) (v8 : Value) (x22 : Value) (n20 : Value → Value → Store → Prop) : Prop :=
vop (loadV false 1 v34 s35.get) s35 fun v36 s37 =>
vop (binI .leq v36 x21) s37 fun v38 s39 =>
gop v38 false s39 (fun K => vop (faddr 0 v30) s39 K) fun v40 s41 =>
gop v38 false s41 (fun K => vop (loadV false 1 v40 s41.get) s41 K) fun v42 s43 =>
gop v38 false s43 (fun K => vop (faddr 0 v0) s43 K) fun v44 s45 =>
gop v38 false s45 (fun K => vop (loadV false 1 v44 s45.get) s45 K) fun v46 s47 =>
gop v38 false s47 (fun K => vop (binI .geq v42 v46) s47 K) fun v48 s49 =>
vop (pickV v38 (.bool true) v48) s49 fun v50 s51 =>
gop v50 false s51 (fun K => vop (faddr 1 v30) s51 K) fun v52 s53 =>
gop v50 false s53 (fun K => vop (loadV true 1024 v52 s53.get) s53 K) fun v54 s55 =>
gop v50 false s55 (fun K => vop (aggOf (buildL (List.replicate 1024 (unrle [(1, (.int .u8 0))])) [])) s55 K) fun v56 s57 =>
gop v50 false s57 (fun K => vop (eqA (.ints .u8 1024) false v54 v56) s57 K) fun v58 s59 =>
vop (pickV v50 (.bool true) v58) s59 fun v60 s61 =>
p22_1 v60 K s61 v8 v30 x22 n20
def p22_3 (v12 : Value) (K : Value → Store → Prop) (s13 : Store) (v0 : Value) (v8 : Value) : Prop :=
condH v12 (
K (.tuple #[(.pointer none), (.int .i64 4)]) s13) (
vop (faddr 1 v0) s13 fun v14 s15 =>
vop (loadV false 1 v14 s15.get) s15 fun v16 s17 =>
vop (lenSl v16) s17 fun v18 s19 =>
lop 2 (fun (n20 : Value → Value → Store → Prop) x21 x22 s23 =>
vop (binI .lss x22 v18) s23 fun v24 s25 =>
condH v24 (
vop (iaddrS 1025 v16 x22) s25 fun v26 s27 =>
vop (loadV true 1025 v26 s27.get) s27 fun v28 s29 =>
nop (some (.cells (unrle [(1, (.int .i64 0)), (1024, (.int .u8 0))]) none, ptrTo)) s29 fun v30 s31 =>
eop (storeV 1025 v30 v28 s31) fun _ s33 =>
vop (faddr 0 v30) s33 fun v34 s35 =>
p22_2 v34 s35 x21 K v30 v0 v8 x22 n20) (
K (.tuple #[v8, (.int .i64 0)]) s25)) (.int .i64 (-1)) (.int .i64 0) s19)
/-- undercroft/disk.Load -/
def p22 (K : Value → Store → Prop) (a0 : Value) (s : Store) : Prop :=
nop (boxN a0) s fun v0 s1 =>
vop (faddr 0 v0) s1 fun v2 s3 =>
vop (loadV false 1 v2 s3.get) s3 fun v4 s5 =>
Does Try.prog 31 [v4] s5 fun v6 s7 =>
vop (extractV v6 0) s7 fun v8 s9 =>
vop (extractV v6 1) s9 fun v10 s11 =>
vop (binI .neq v10 (.int .i64 0)) s11 fun v12 s13 =>
p22_3 v12 K s13 v0 v8
theorem e22 (K : Value → Store → Prop) (a0 : Value) (s : Store) : bodyT Try.prog Try.f22 [a0] s K = p22 K a0 s := by kernel_rfl
theorem d22 {K : Value → Store → Prop} {a0 : Value} {s : Store} (h : p22 K a0 s) : Does Try.prog 22 [a0] s K := does_of_print Try.func22 (by kernel_rfl) ((e22 K a0 s).symm ▸ h)
def p23_1 (v2 : Value) (s46 : Store) (x43 : Value) (v38 : Value) (n42 : Value → Store → Prop) : Prop :=
vop (loadV true 1024 v2 s46.get) s46 fun v47 _ =>
vop (binI .add x43 (.int .i64 1)) s46 fun v48 s49 =>
vop (binI .mul (.int .i64 4) v48) s49 fun v50 s51 =>
Does Try.prog 45 [v47, v50] s51 fun v52 s53 =>
vop (faddr 0 v38) s53 fun v54 s55 =>
vop (loadV false 1 v54 s53.get) s55 fun v56 _ =>
kop (loadV false 1 v54 s46.get) v56 (
vop (convI .i64 v52) s55 fun v57 s58 =>
nop (sliceOf 1 (buildL (List.replicate 1 (unrle [(1, (.int .i64 0))])) [(0, v57)])) s58 fun v59 s60 =>
eop (appendV 1 8 v56 v59 s60) fun v61 s62 =>
vop (faddr 0 v38) s62 fun v63 s64 =>
eop (storeV 1 v63 v61 s64) fun _ s66 =>
vop (binI .add x43 (.int .i64 1)) s66 fun v67 s68 =>
n42 v67 s68)
def p23_2 (v0 : Value) (s46 : Store) (v38 : Value) (v4 : Value) (K : Value → Store → Prop) : Prop :=
vop (loadV true 9 v0 s46.get) s46 fun v69 s70 =>
vop (faddr 0 v38) s70 fun v71 s72 =>
vop (loadV false 1 v71 s72.get) s72 fun v73 s74 =>
Does Try.prog 43 [v69, v73] s74 fun v75 s76 =>
vop (unV .not v75) s76 fun v77 s78 =>
condH v77 (
vop (aggOf (buildL [(unrle [(1, (.slice none 0 0))])] [])) s78 fun v79 s80 =>
eop (storeV 1 v4 v79 s80) fun _ s82 =>
vop (loadV true 1 v4 s82.get) s82 fun v83 _ =>
K (.tuple #[v83, (.int .i64 4)]) s82) (
vop (loadV true 1 v38 s78.get) s78 fun v84 s85 =>
eop (storeV 1 v4 v84 s85) fun _ s87 =>
vop (loadV true 1 v4 s87.get) s87 fun v88 _ =>
K (.tuple #[v88, (.int .i64 0)]) s87)
def p23_3 (v27 : Value) (s28 : Store) (v21 : Value) (v4 : Value) (K : Value → Store → Prop) (v19 : Value) (v2 : Value) (v0 : Value) : Prop :=
vop (binI .sub v27 (.int .i64 1)) s28 fun v29 s30 =>
vop (binI .gtr v21 v29) s30 fun v31 s32 =>
condH v31 (
vop (aggOf (buildL [(unrle [(1, (.slice none 0 0))])] [])) s32 fun v33 s34 =>
eop (storeV 1 v4 v33 s34) fun _ s36 =>
vop (loadV true 1 v4 s36.get) s36 fun v37 _ =>
K (.tuple #[v37, (.int .i64 4)]) s36) (
nop (some (.cells (unrle [(1, (.slice none 0 0))]) none, ptrTo)) s32 fun v38 s39 =>
vop (convI .i64 v19) s39 fun v40 s41 =>
lop 1 (fun (n42 : Value → Store → Prop) x43 s44 =>
vop (binI .lss x43 v40) s44 fun v45 s46 =>
condH v45 (
p23_1 v2 s46 x43 v38 n42) (
p23_2 v0 s46 v38 v4 K)) (.int .i64 0) s41)
def p23_4 (v6 : Value) (s7 : Store) (v4 : Value) (K : Value → Store → Prop) (v2 : Value) (v0 : Value) : Prop :=
Does Try.prog 42 [v6] s7 fun v8 s9 =>
vop (unV .not v8) s9 fun v10 s11 =>
condH v10 (
vop (aggOf (buildL [(unrle [(1, (.slice none 0 0))])] [])) s11 fun v12 s13 =>
eop (storeV 1 v4 v12 s13) fun _ s15 =>
vop (loadV true 1 v4 s15.get) s15 fun v16 _ =>
K (.tuple #[v16, (.int .i64 2)]) s15) (
vop (loadV true 1024 v2 s11.get) s11 fun v17 s18 =>
Does Try.prog 45 [v17, (.int .i64 0)] s18 fun v19 s20 =>
vop (convI .i64 v19) s20 fun v21 s22 =>
vop (faddr 0 v0) s22 fun v23 s24 =>
vop (faddr 1 v23) s24 fun v25 s26 =>
vop (loadV false 1 v25 s26.get) s26 fun v27 s28 =>
p23_3 v27 s28 v21 v4 K v19 v2 v0)
/-- undercroft/head.Decode -/
def p23 (K : Value → Store → Prop) (a0 a1 : Value) (s : Store) : Prop :=
nop (boxN a0) s fun v0 s1 =>
nop (boxN a1) s1 fun v2 s3 =>
nop (some (.cells (unrle [(1, (.slice none 0 0))]) none, ptrTo)) s3 fun v4 s5 =>
vop (loadV true 9 v0 s5.get) s5 fun v6 s7 =>
p23_4 v6 s7 v4 K v2 v0
theorem e23 (K : Value → Store → Prop) (a0 a1 : Value) (s : Store) : bodyT Try.prog Try.f23 [a0, a1] s K = p23 K a0 a1 s := by kernel_rfl
theorem d23 {K : Value → Store → Prop} {a0 a1 : Value} {s : Store} (h : p23 K a0 a1 s) : Does Try.prog 23 [a0, a1] s K := does_of_print Try.func23 (by kernel_rfl) ((e23 K a0 a1 s).symm ▸ h)
/-- undercroft/undercroftref05.At -/
def p24 (K : Value → Store → Prop) (a0 a1 : Value) (s : Store) : Prop :=
nop (boxN a0) s fun v0 s1 =>
nop (some (.cells (unrle [(1024, (.int .u8 0))]) none, ptrTo)) s1 fun v2 s3 =>
lop 1 (fun (n4 : Value → Store → Prop) x5 s6 =>
vop (faddr 1 v0) s6 fun v7 s8 =>
vop (loadV false 1 v7 s8.get) s8 fun v9 s10 =>
vop (lenSl v9) s10 fun v11 s12 =>
vop (binI .lss x5 v11) s12 fun v13 s14 =>
condH v13 (
vop (faddr 1 v0) s14 fun v15 s16 =>
vop (loadV false 1 v15 s16.get) s16 fun v17 s18 =>
vop (iaddrS 1025 v17 x5) s18 fun v19 s20 =>
vop (faddr 0 v19) s20 fun v21 s22 =>
vop (loadV false 1 v21 s22.get) s22 fun v23 s24 =>
vop (binI .eql v23 a1) s24 fun v25 s26 =>
condH v25 (
vop (faddr 1 v0) s26 fun v27 s28 =>
vop (loadV false 1 v27 s28.get) s28 fun v29 s30 =>
vop (iaddrS 1025 v29 x5) s30 fun v31 s32 =>
vop (faddr 1 v31) s32 fun v33 s34 =>
vop (loadV true 1024 v33 s34.get) s34 fun v35 s36 =>
eop (storeV 1024 v2 v35 s36) fun _ s38 =>
vop (loadV true 1024 v2 s38.get) s38 fun v39 _ =>
K v39 s38) (
vop (binI .add x5 (.int .i64 1)) s26 fun v40 s41 =>
n4 v40 s41)) (
vop (aggOf (buildL (List.replicate 1024 (unrle [(1, (.int .u8 0))])) [])) s14 fun v42 s43 =>
eop (storeV 1024 v2 v42 s43) fun _ s45 =>
vop (loadV true 1024 v2 s45.get) s45 fun v46 _ =>
K v46 s45)) (.int .i64 0) s3
theorem e24 (K : Value → Store → Prop) (a0 a1 : Value) (s : Store) : bodyT Try.prog Try.f24 [a0, a1] s K = p24 K a0 a1 s := by kernel_rfl
theorem d24 {K : Value → Store → Prop} {a0 a1 : Value} {s : Store} (h : p24 K a0 a1 s) : Does Try.prog 24 [a0, a1] s K := does_of_print Try.func24 (by kernel_rfl) ((e24 K a0 a1 s).symm ▸ h)
/-- undercroft/wal.New -/
def p25 (K : Value → Store → Prop) (a0 a1 : Value) (s : Store) : Prop :=
nop (boxN a1) s fun v0 s1 =>
vop (loadV true 9 v0 s1.get) s1 fun v2 s3 =>
Does Try.prog 46 [a0, v2] s3 fun v4 s5 =>
vop (extractV v4 0) s5 fun v6 s7 =>
vop (extractV v4 1) s7 fun v8 s9 =>
nop (some (.cells (unrle [(1, (.slice none 0 0))]) none, ptrTo)) s9 fun v10 s11 =>
eop (storeV 1 v10 v6 s11) fun _ s13 =>
vop (binI .neq v8 (.int .i64 0)) s13 fun v14 s15 =>
condH v14 (
K (.tuple #[(.pointer none), v8]) s15) (
vop (faddr 0 v10) s15 fun v16 s17 =>
vop (loadV false 1 v16 s17.get) s17 fun v18 s19 =>
vop (lenSl v18) s19 fun v20 s21 =>
vop (binI .gtr v20 (.int .i64 0)) s21 fun v22 s23 =>
condH v22 (
K (.tuple #[(.pointer none), (.int .i64 4)]) s23) (
vop (faddr 0 v0) s23 fun v24 s25 =>
vop (faddr 1 v24) s25 fun v26 s27 =>
vop (loadV false 1 v26 s27.get) s27 fun v28 s29 =>
vop (binI .add v28 (.int .i64 32)) s29 fun v30 s31 =>
Does Try.prog 47 [a0, v30] s31 fun v32 s33 =>
vop (extractV v32 0) s33 fun v34 s35 =>
vop (extractV v32 1) s35 fun v36 s37 =>
vop (binI .neq v36 (.int .i64 0)) s37 fun v38 s39 =>
condH v38 (
K (.tuple #[(.pointer none), v36]) s39) (
Does Try.prog 48 [a0] s39 fun v40 s41 =>
vop (loadV true 9 v0 s41.get) s41 fun v42 _ =>
kop (loadV true 9 v0 s39.get) v42 (
nop (some (.map [] 0, fun i => .map (some i))) s41 fun v43 s44 =>
vop (aggOf (buildL [(unrle [(1, (.slice none 0 0))]), (unrle [(1, (.map none))])] [(1, v43)])) s44 fun v45 s46 =>
vop (aggOf (buildL [(unrle [(1, (.slice none 0 0)), (1, (.map none))]), (unrle [(1, (.pointer none))]), (unrle [(1, (.pointer none))]), (unrle [(9, (.int .i64 0))]), (unrle [(1, (.int .i64 0))]), (unrle [(1, (.bool false))]), (unrle [(1, (.int .i64 0))]), (unrle [(1, (.map none))]), (unrle [(1, (.int .i64 0))]), (unrle [(1, (.int .i64 0))])] [(1, a0), (2, v34), (3, v42), (4, v40), (0, v45)])) s46 fun v47 s48 =>
nop (boxN v47) s48 fun v49 s50 =>
K (.tuple #[v49, (.int .i64 0)]) s50))))
theorem e25 (K : Value → Store → Prop) (a0 a1 : Value) (s : Store) : bodyT Try.prog Try.f25 [a0, a1] s K = p25 K a0 a1 s := by kernel_rfl
theorem d25 {K : Value → Store → Prop} {a0 a1 : Value} {s : Store} (h : p25 K a0 a1 s) : Does Try.prog 25 [a0, a1] s K := does_of_print Try.func25 (by kernel_rfl) ((e25 K a0 a1 s).symm ▸ h)
def p26_1 (v49 : Value) (s52 : Store) (v51 : Value) (K : Value → Store → Prop) (a0 : Value) (v39 : Value) (x33 : Value) (n32 : Value → Store → Prop) : Prop :=
vop (extractV v49 1) s52 fun v53 s54 =>
nop (some (.cells (unrle [(1024, (.int .u8 0))]) none, ptrTo)) s54 fun v55 s56 =>
eop (storeV 1024 v55 v51 s56) fun _ s58 =>
vop (binI .neq v53 (.int .i64 0)) s58 fun v59 s60 =>
gop v59 false s60 (fun K => K a0 s60) fun v61 s62 =>
gop v59 false s62 (fun K => K v39 s62) fun v63 s64 =>
gop v59 false s64 (fun K => vop (loadV true 1024 v55 s64.get) s64 K) fun v65 s66 =>
gop v59 false s66 (fun K => Does Try.prog 49 [v61, v63, v65] s66 K) fun v67 s68 =>
gop v59 false s68 (fun K => vop (binI .neq v67 (.int .i64 0)) s68 K) fun v69 s70 =>
vop (pickV v59 (.bool true) v69) s70 fun v71 s72 =>
condH v71 (
K (.tuple #[(.int .i64 0), (.int .i64 3)]) s72) (
vop (binI .add x33 (.int .i64 1)) s72 fun v73 s74 =>
n32 v73 s74)
def p26_2 (v77 : Value) (s84 : Store) (K : Value → Store → Prop) (v79 : Value) (v83 : Value) (a0 : Value) (v10 : Value) : Prop :=
gop v77 false s84 (fun K => vop (aggOf (buildL (List.replicate 1024 (unrle [(1, (.int .u8 0))])) [])) s84 K) fun v85 s86 =>
gop v77 false s86 (fun K => Does Try.prog 49 [v79, v83, v85] s86 K) fun v87 s88 =>
gop v77 false s88 (fun K => vop (binI .neq v87 (.int .i64 0)) s88 K) fun v89 s90 =>
vop (pickV v77 (.bool true) v89) s90 fun v91 s92 =>
gop v91 false s92 (fun K => K a0 s92) fun v93 s94 =>
gop v91 false s94 (fun K => Does Try.prog 50 [v93] s94 K) fun v95 s96 =>
gop v91 false s96 (fun K => vop (binI .neq v95 (.int .i64 0)) s96 K) fun v97 s98 =>
vop (pickV v91 (.bool true) v97) s98 fun v99 s100 =>
condH v99 (
K (.tuple #[(.int .i64 0), (.int .i64 3)]) s100) (
vop (faddr 0 v10) s100 fun v101 s102 =>
vop (loadV false 1 v101 s102.get) s102 fun v103 s104 =>
vop (lenSl v103) s104 fun v105 s106 =>
K (.tuple #[v105, (.int .i64 0)]) s106)
def p26_3 (v35 : Value) (v28 : Value) (x33 : Value) (s36 : Store) (v0 : Value) (a0 : Value) (K : Value → Store → Prop) (n32 : Value → Store → Prop) (v10 : Value) : Prop :=
condH v35 (
vop (iaddrS 1 v28 x33) s36 fun v37 s38 =>
vop (loadV false 1 v37 s38.get) s38 fun v39 s40 =>
vop (faddr 3 v0) s40 fun v41 s42 =>
vop (loadV false 1 v41 s42.get) s42 fun v43 s44 =>
vop (binI .add v43 (.int .i64 1)) s44 fun v45 s46 =>
vop (binI .add v45 x33) s46 fun v47 s48 =>
Does Try.prog 35 [a0, v47] s48 fun v49 s50 =>
vop (extractV v49 0) s50 fun v51 s52 =>
p26_1 v49 s52 v51 K a0 v39 x33 n32) (
Does Try.prog 50 [a0] s36 fun v75 s76 =>
vop (binI .neq v75 (.int .i64 0)) s76 fun v77 s78 =>
gop v77 false s78 (fun K => K a0 s78) fun v79 s80 =>
gop v77 false s80 (fun K => vop (faddr 3 v0) s80 K) fun v81 s82 =>
gop v77 false s82 (fun K => vop (loadV false 1 v81 s82.get) s82 K) fun v83 s84 =>
p26_2 v77 s84 K v79 v83 a0 v10)
def p26_4 (v8 : Value) (s13 : Store) (K : Value → Store → Prop) (v10 : Value) (v0 : Value) (a0 : Value) : Prop :=
vop (binI .neq v8 (.int .i64 0)) s13 fun v14 s15 =>
gop v14 false s15 (fun K => vop (faddr 0 v10) s15 K) fun v16 s17 =>
gop v14 false s17 (fun K => vop (loadV false 1 v16 s17.get) s17 K) fun v18 s19 =>
gop v14 false s19 (fun K => vop (lenSl v18) s19 K) fun v20 s21 =>
gop v14 false s21 (fun K => vop (binI .eql v20 (.int .i64 0)) s21 K) fun v22 s23 =>
vop (pickV v14 (.bool true) v22) s23 fun v24 s25 =>
condH v24 (
K (.tuple #[(.int .i64 0), v8]) s25) (
vop (faddr 0 v10) s25 fun v26 s27 =>
vop (loadV false 1 v26 s27.get) s27 fun v28 s29 =>
vop (lenSl v28) s29 fun v30 s31 =>
lop 1 (fun (n32 : Value → Store → Prop) x33 s34 =>
vop (binI .lss x33 v30) s34 fun v35 s36 =>
p26_3 v35 v28 x33 s36 v0 a0 K n32 v10) (.int .i64 0) s31)
/-- undercroft/wal.Recover -/
def p26 (K : Value → Store → Prop) (a0 a1 : Value) (s : Store) : Prop :=
nop (boxN a1) s fun v0 s1 =>
vop (loadV true 9 v0 s1.get) s1 fun v2 s3 =>
Does Try.prog 46 [a0, v2] s3 fun v4 s5 =>
vop (extractV v4 0) s5 fun v6 s7 =>
vop (extractV v4 1) s7 fun v8 s9 =>
nop (some (.cells (unrle [(1, (.slice none 0 0))]) none, ptrTo)) s9 fun v10 s11 =>
eop (storeV 1 v10 v6 s11) fun _ s13 =>
p26_4 v8 s13 K v10 v0 a0
theorem e26 (K : Value → Store → Prop) (a0 a1 : Value) (s : Store) : bodyT Try.prog Try.f26 [a0, a1] s K = p26 K a0 a1 s := by kernel_rfl
theorem d26 {K : Value → Store → Prop} {a0 a1 : Value} {s : Store} (h : p26 K a0 a1 s) : Does Try.prog 26 [a0, a1] s K := does_of_print Try.func26 (by kernel_rfl) ((e26 K a0 a1 s).symm ▸ h)
def p27_1 (v48 : Value) (s53 : Store) (K : Value → Store → Prop) (a1 : Value) (v52 : Value) (v12 : Value) (v2 : Value) (k47 : Value → Store → Prop) (x23 : Value) : Prop :=
gop v48 true s53 (fun K => K a1 s53) fun v54 s55 =>
gop v48 true s55 (fun K => vop (binI .geq v52 v54) s55 K) fun v56 s57 =>
vop (pickV v48 v56 (.bool false)) s57 fun v58 s59 =>
condH v58 (
vop (faddr 1 v12) s59 fun v60 s61 =>
vop (loadV false 1 v60 s61.get) s61 fun v62 s63 =>
vop (loadV true 1024 v2 s63.get) s63 fun v64 s65 =>
vop (aggOf (buildL [(unrle [(1, (.int .i64 0))]), (unrle [(1024, (.int .u8 0))])] [(0, a1), (1, v64)])) s65 fun v66 s67 =>
nop (sliceOf 1 (buildL (List.replicate 1 (unrle [(1, (.int .i64 0)), (1024, (.int .u8 0))])) [(0, v66)])) s67 fun v68 s69 =>
eop (appendV 1025 1032 v62 v68 s69) fun v70 s71 =>
vop (faddr 1 v12) s71 fun v72 s73 =>
eop (storeV 1 v72 v70 s73) fun _ s75 =>
k47 (.bool true) s75) (
k47 x23 s59)
def p27_2 (x23 : Value) (s46 : Store) (K : Value → Store → Prop) (v43 : Value) (a1 : Value) (v12 : Value) (v2 : Value) (k34 : Value → Store → Prop) : Prop :=
jop 1 (fun (k47 : Value → Store → Prop) =>
vop (unV .not x23) s46 fun v48 s49 =>
gop v48 true s49 (fun K => vop (faddr 0 v43) s49 K) fun v50 s51 =>
gop v48 true s51 (fun K => vop (loadV false 1 v50 s51.get) s51 K) fun v52 s53 =>
p27_1 v48 s53 K a1 v52 v12 v2 k47 x23) fun x76 s77 =>
vop (faddr 0 v43) s77 fun v78 s79 =>
vop (loadV false 1 v78 s79.get) s79 fun v80 s81 =>
vop (binI .neq v80 a1) s81 fun v82 s83 =>
condH v82 (
vop (faddr 1 v12) s83 fun v84 s85 =>
vop (loadV false 1 v84 s85.get) s85 fun v86 s87 =>
vop (loadV true 1025 v43 s87.get) s87 fun v88 s89 =>
nop (sliceOf 1 (buildL (List.replicate 1 (unrle [(1, (.int .i64 0)), (1024, (.int .u8 0))])) [(0, v88)])) s89 fun v90 s91 =>
eop (appendV 1025 1032 v86 v90 s91) fun v92 s93 =>
vop (faddr 1 v12) s93 fun v94 s95 =>
eop (storeV 1 v94 v92 s95) fun _ s97 =>
k34 x76 s97) (
k34 x76 s83)
def p27_3 (x23 : Value) (s33 : Store) (v12 : Value) (v2 : Value) (a1 : Value) (v4 : Value) (K : Value → Store → Prop) : Prop :=
jop 0 (fun (k102 : Store → Prop) =>
vop (unV .not x23) s33 fun v103 s104 =>
condH v103 (
vop (faddr 1 v12) s104 fun v105 s106 =>
vop (loadV false 1 v105 s106.get) s106 fun v107 s108 =>
vop (loadV true 1024 v2 s108.get) s108 fun v109 s110 =>
vop (aggOf (buildL [(unrle [(1, (.int .i64 0))]), (unrle [(1024, (.int .u8 0))])] [(0, a1), (1, v109)])) s110 fun v111 s112 =>
nop (sliceOf 1 (buildL (List.replicate 1 (unrle [(1, (.int .i64 0)), (1024, (.int .u8 0))])) [(0, v111)])) s112 fun v113 s114 =>
eop (appendV 1025 1032 v107 v113 s114) fun v115 s116 =>
vop (faddr 1 v12) s116 fun v117 s118 =>
eop (storeV 1 v117 v115 s118) fun _ s120 =>
k102 s120) (
k102 s104)) fun s121 =>
vop (loadV true 2 v12 s121.get) s121 fun v122 s123 =>
eop (storeV 2 v4 v122 s123) fun _ s125 =>
vop (loadV true 2 v4 s125.get) s125 fun v126 _ =>
K v126 s125
def p27_4 (v28 : Value) (s29 : Store) (x24 : Value) (v0 : Value) (x23 : Value) (K : Value → Store → Prop) (a1 : Value) (v12 : Value) (v2 : Value) (n22 : Value → Value → Store → Prop) (v4 : Value) : Prop :=
vop (lenSl v28) s29 fun v30 s31 =>
vop (binI .lss x24 v30) s31 fun v32 s33 =>
condH v32 (
jop 1 (fun (k34 : Value → Store → Prop) =>
vop (faddr 1 v0) s33 fun v35 s36 =>
vop (loadV false 1 v35 s36.get) s36 fun v37 s38 =>
vop (iaddrS 1025 v37 x24) s38 fun v39 s40 =>
vop (loadV true 1025 v39 s40.get) s40 fun v41 s42 =>
nop (some (.cells (unrle [(1, (.int .i64 0)), (1024, (.int .u8 0))]) none, ptrTo)) s42 fun v43 s44 =>
eop (storeV 1025 v43 v41 s44) fun _ s46 =>
p27_2 x23 s46 K v43 a1 v12 v2 k34) fun x98 s99 =>
vop (binI .add x24 (.int .i64 1)) s99 fun v100 s101 =>
n22 x98 v100 s101) (
p27_3 x23 s33 v12 v2 a1 v4 K)
def p27_5 (a2 : Value) (s1 : Store) (v0 : Value) (K : Value → Store → Prop) (a1 : Value) : Prop :=
nop (boxN a2) s1 fun v2 s3 =>
nop (some (.cells (unrle [(1, (.int .i64 0)), (1, (.slice none 0 0))]) none, ptrTo)) s3 fun v4 s5 =>
vop (faddr 0 v0) s5 fun v6 s7 =>
vop (loadV false 1 v6 s7.get) s7 fun v8 s9 =>
vop (aggOf (buildL [(unrle [(1, (.int .i64 0))]), (unrle [(1, (.slice none 0 0))])] [(0, v8)])) s9 fun v10 s11 =>
nop (some (.cells (unrle [(1, (.int .i64 0)), (1, (.slice none 0 0))]) none, ptrTo)) s11 fun v12 s13 =>
eop (storeV 2 v12 v10 s13) fun _ s15 =>
vop (loadV true 1024 v2 s15.get) s15 fun v16 s17 =>
vop (aggOf (buildL (List.replicate 1024 (unrle [(1, (.int .u8 0))])) [])) s17 fun v18 s19 =>
vop (eqA (.ints .u8 1024) false v16 v18) s19 fun v20 s21 =>
lop 2 (fun (n22 : Value → Value → Store → Prop) x23 x24 s25 =>
vop (faddr 1 v0) s25 fun v26 s27 =>
vop (loadV false 1 v26 s27.get) s27 fun v28 s29 =>
p27_4 v28 s29 x24 v0 x23 K a1 v12 v2 n22 v4) v20 (.int .i64 0) s21
/-- undercroft/undercroftref05.With -/
def p27 (K : Value → Store → Prop) (a0 a1 a2 : Value) (s : Store) : Prop :=
nop (boxN a0) s fun v0 s1 =>
p27_5 a2 s1 v0 K a1
theorem e27 (K : Value → Store → Prop) (a0 a1 a2 : Value) (s : Store) : bodyT Try.prog Try.f27 [a0, a1, a2] s K = p27 K a0 a1 a2 s := by kernel_rfl
theorem d27 {K : Value → Store → Prop} {a0 a1 a2 : Value} {s : Store} (h : p27 K a0 a1 a2 s) : Does Try.prog 27 [a0, a1, a2] s K := does_of_print Try.func27 (by kernel_rfl) ((e27 K a0 a1 a2 s).symm ▸ h)
/-- (*undercroft/disk.Disk).Pending -/
def p28 (K : Value → Store → Prop) (a0 : Value) (s : Store) : Prop :=
Does Try.prog 41 [a0] s fun v0 s1 =>
vop (unV .not v0) s1 fun v2 s3 =>
condH v2 (
K (.slice none 0 0) s3) (
vop (nilV a0) s3 fun v4 s5 =>
vop (faddr 3 v4) s5 fun v6 s7 =>
vop (loadV false 1 v6 s7.get) s7 fun v8 s9 =>
vop (lenSl v8) s9 fun v10 s11 =>
lop 2 (fun (n12 : Value → Value → Store → Prop) x13 x14 s15 =>
vop (binI .lss x14 v10) s15 fun v16 s17 =>
condH v16 (
vop (iaddrS 1025 v8 x14) s17 fun v18 s19 =>
vop (loadV true 1025 v18 s19.get) s19 fun v20 s21 =>
nop (some (.cells (unrle [(1, (.int .i64 0)), (1024, (.int .u8 0))]) none, ptrTo)) s21 fun v22 s23 =>
eop (storeV 1025 v22 v20 s23) fun _ s25 =>
vop (faddr 0 v22) s25 fun v26 s27 =>
vop (loadV false 1 v26 s27.get) s27 fun v28 s29 =>
nop (sliceOf 1 (buildL (List.replicate 1 (unrle [(1, (.int .i64 0))])) [(0, v28)])) s29 fun v30 s31 =>
eop (appendV 1 8 x13 v30 s31) fun v32 s33 =>
vop (binI .add x14 (.int .i64 1)) s33 fun v34 s35 =>
n12 v32 v34 s35) (
K x13 s17)) (.slice none 0 0) (.int .i64 0) s11)
theorem e28 (K : Value → Store → Prop) (a0 : Value) (s : Store) : bodyT Try.prog Try.f28 [a0] s K = p28 K a0 s := by kernel_rfl
theorem d28 {K : Value → Store → Prop} {a0 : Value} {s : Store} (h : p28 K a0 s) : Does Try.prog 28 [a0] s K := does_of_print Try.func28 (by kernel_rfl) ((e28 K a0 s).symm ▸ h)
/-- undercroft/undercroftlaw08.sameImage -/
def p29 (K : Value → Store → Prop) (a0 a1 : Value) (s : Store) : Prop :=
nop (boxN a0) s fun v0 s1 =>
nop (boxN a1) s1 fun v2 s3 =>
vop (faddr 0 v0) s3 fun v4 s5 =>
vop (loadV false 1 v4 s5.get) s5 fun v6 s7 =>
vop (faddr 0 v2) s7 fun v8 s9 =>
vop (loadV false 1 v8 s9.get) s9 fun v10 s11 =>
vop (binI .eql v6 v10) s11 fun v12 s13 =>
gop v12 true s13 (fun K => vop (faddr 1 v0) s13 K) fun v14 s15 =>
gop v12 true s15 (fun K => vop (loadV false 1 v14 s15.get) s15 K) fun v16 s17 =>
gop v12 true s17 (fun K => vop (faddr 1 v2) s17 K) fun v18 s19 =>
gop v12 true s19 (fun K => vop (loadV false 1 v18 s19.get) s19 K) fun v20 s21 =>
gop v12 true s21 (fun K => Does Try.prog 51 [v16, v20] s21 K) fun v22 s23 =>
vop (pickV v12 v22 (.bool false)) s23 fun v24 s25 =>
K v24 s25
theorem e29 (K : Value → Store → Prop) (a0 a1 : Value) (s : Store) : bodyT Try.prog Try.f29 [a0, a1] s K = p29 K a0 a1 s := by kernel_rfl
theorem d29 {K : Value → Store → Prop} {a0 a1 : Value} {s : Store} (h : p29 K a0 a1 s) : Does Try.prog 29 [a0, a1] s K := does_of_print Try.func29 (by kernel_rfl) ((e29 K a0 a1 s).symm ▸ h)
/-- (*undercroft/disk.Disk).Image -/
def p30 (K : Value → Store → Prop) (a0 : Value) (s : Store) : Prop :=
nop (some (.cells (unrle [(1, (.int .i64 0)), (1, (.slice none 0 0))]) none, ptrTo)) s fun v0 s1 =>
Does Try.prog 41 [a0] s1 fun v2 s3 =>
vop (unV .not v2) s3 fun v4 s5 =>
condH v4 (
vop (aggOf (buildL [(unrle [(1, (.int .i64 0))]), (unrle [(1, (.slice none 0 0))])] [])) s5 fun v6 s7 =>
eop (storeV 2 v0 v6 s7) fun _ s9 =>
vop (loadV true 2 v0 s9.get) s9 fun v10 _ =>
K v10 s9) (
vop (nilV a0) s5 fun v11 s12 =>
vop (faddr 0 v11) s12 fun v13 s14 =>
vop (loadV false 1 v13 s14.get) s14 fun v15 s16 =>
vop (aggOf (buildL [(unrle [(1, (.int .i64 0))]), (unrle [(1, (.slice none 0 0))])] [(0, v15)])) s16 fun v17 s18 =>
nop (some (.cells (unrle [(1, (.int .i64 0)), (1, (.slice none 0 0))]) none, ptrTo)) s18 fun v19 s20 =>
eop (storeV 2 v19 v17 s20) fun _ s22 =>
vop (nilV a0) s22 fun v23 s24 =>
vop (faddr 1 v23) s24 fun v25 s26 =>
vop (loadV false 1 v25 s26.get) s26 fun v27 s28 =>
eop (rangeH v27 s28) fun v29 s30 =>
lop 0 (fun (n31 : Store → Prop) s32 =>
pop (nextL v29 s32) fun v33 s34 =>
vop (extractV v33 0) s34 fun v35 s36 =>
condH v35 (
vop (entryL v29 s36.get) s36 fun v37 s38 =>
vop (extractV v37 0) s38 fun v39 s40 =>
vop (extractV v37 1) s40 fun v41 s42 =>
nop (some (.cells (unrle [(1024, (.int .u8 0))]) none, ptrTo)) s42 fun v43 s44 =>
eop (storeV 1024 v43 v41 s44) fun _ s46 =>
vop (faddr 1 v19) s46 fun v47 s48 =>
vop (loadV false 1 v47 s48.get) s48 fun v49 s50 =>
vop (loadV true 1024 v43 s50.get) s50 fun v51 s52 =>
vop (aggOf (buildL [(unrle [(1, (.int .i64 0))]), (unrle [(1024, (.int .u8 0))])] [(0, v39), (1, v51)])) s52 fun v53 s54 =>
nop (sliceOf 1 (buildL (List.replicate 1 (unrle [(1, (.int .i64 0)), (1024, (.int .u8 0))])) [(0, v53)])) s54 fun v55 s56 =>
eop (appendV 1025 1032 v49 v55 s56) fun v57 s58 =>
vop (faddr 1 v19) s58 fun v59 s60 =>
eop (storeV 1 v59 v57 s60) fun _ s62 =>
n31 s62) (
vop (faddr 1 v19) s36 fun v63 s64 =>
vop (loadV false 1 v63 s64.get) s64 fun v65 s66 =>
Does Try.prog 52 [(.iface 61 v65), (.func (.func 53) #[] #[v19])] s66 fun _ s68 =>
vop (loadV true 2 v19 s68.get) s68 fun v69 s70 =>
eop (storeV 2 v0 v69 s70) fun _ s72 =>
vop (loadV true 2 v0 s72.get) s72 fun v73 _ =>
K v73 s72)) s30)
theorem e30 (K : Value → Store → Prop) (a0 : Value) (s : Store) : bodyT Try.prog Try.f30 [a0] s K = p30 K a0 s := by kernel_rfl
theorem d30 {K : Value → Store → Prop} {a0 : Value} {s : Store} (h : p30 K a0 s) : DoesD Try.prog 30 [a0] s K := doesD_of_print Try.func30 (by kernel_rfl) ((e30 K a0 s).symm ▸ h)
/-- undercroft/disk.New -/
def p31 (K : Value → Store → Prop) (a0 : Value) (s : Store) : Prop :=
vop (binI .lss a0 (.int .i64 1)) s fun v0 s1 =>
gop v0 false s1 (fun K => K a0 s1) fun v2 s3 =>
gop v0 false s3 (fun K => vop (binI .gtr v2 (.int .i64 1048576)) s3 K) fun v4 s5 =>
vop (pickV v0 (.bool true) v4) s5 fun v6 s7 =>
condH v6 (
K (.tuple #[(.pointer none), (.int .i64 2)]) s7) (
nop (some (.map [] 0, fun i => .map (some i))) s7 fun v8 s9 =>
nop (some (.map [] 0, fun i => .map (some i))) s9 fun v10 s11 =>
vop (aggOf (buildL [(unrle [(1, (.int .i64 0))]), (unrle [(1, (.map none))]), (unrle [(1, (.map none))]), (unrle [(1, (.slice none 0 0))]), (unrle [(1, (.slice none 0 0))]), (unrle [(1, (.int .i64 0))]), (unrle [(1, (.bool false))]), (unrle [(1, (.int .i64 0))]), (unrle [(1, (.int .i64 0))]), (unrle [(1, (.int .i64 0))]), (unrle [(1, (.int .i64 0))])] [(0, a0), (1, v8), (2, v10), (5, (.int .i64 (-1)))])) s11 fun v12 s13 =>
nop (boxN v12) s13 fun v14 s15 =>
K (.tuple #[v14, (.int .i64 0)]) s15)
theorem e31 (K : Value → Store → Prop) (a0 : Value) (s : Store) : bodyT Try.prog Try.f31 [a0] s K = p31 K a0 s := by kernel_rfl
theorem d31 {K : Value → Store → Prop} {a0 : Value} {s : Store} (h : p31 K a0 s) : Does Try.prog 31 [a0] s K := does_of_print Try.func31 (by kernel_rfl) ((e31 K a0 s).symm ▸ h)
def p32_1 (v81 : Value) (v12 : Value) (s82 : Store) (k16 : Store → Prop) (a1 : Value) : Prop :=
condH v81 (
vop (faddr 0 v12) s82 fun v83 s84 =>
vop (faddr 0 v83) s84 fun v85 s86 =>
vop (loadV false 1 v85 s86.get) s86 fun v87 s88 =>
vop (binI .add v87 (.int .i64 1)) s88 fun v89 s90 =>
vop (faddr 0 v12) s90 fun v91 s92 =>
vop (faddr 0 v91) s92 fun v93 s94 =>
eop (storeV 1 v93 v89 s94) fun _ s96 =>
k16 s96) (
vop (binI .eql a1 (.int .i64 7)) s82 fun v97 s98 =>
condH v97 (
vop (aggOf (buildL [(unrle [(3, (.int .i64 0))]), (unrle [(1, (.int .i64 0))]), (unrle [(1, (.int .i64 0))]), (unrle [(1, (.int .i64 0))]), (unrle [(1, (.int .i64 0))]), (unrle [(1, (.int .i64 0))]), (unrle [(1, (.int .i64 0))])] [])) s98 fun v99 s100 =>
eop (storeV 9 v12 v99 s100) fun _ s102 =>
k16 s102) (
k16 s98))
def p32_2 (v57 : Value) (v12 : Value) (s58 : Store) (k16 : Store → Prop) (a1 : Value) : Prop :=
condH v57 (
vop (faddr 6 v12) s58 fun v59 s60 =>
vop (loadV false 1 v59 s60.get) s60 fun v61 s62 =>
vop (binI .sub v61 (.int .i64 1)) s62 fun v63 s64 =>
vop (faddr 6 v12) s64 fun v65 s66 =>
eop (storeV 1 v65 v63 s66) fun _ s68 =>
k16 s68) (
vop (binI .eql a1 (.int .i64 5)) s58 fun v69 s70 =>
condH v69 (
vop (faddr 8 v12) s70 fun v71 s72 =>
vop (loadV false 1 v71 s72.get) s72 fun v73 s74 =>
vop (binI .add v73 (.int .i64 1)) s74 fun v75 s76 =>
vop (faddr 8 v12) s76 fun v77 s78 =>
eop (storeV 1 v77 v75 s78) fun _ s80 =>
k16 s80) (
vop (binI .eql a1 (.int .i64 6)) s70 fun v81 s82 =>
p32_1 v81 v12 s82 k16 a1))
def p32_3 (v33 : Value) (v12 : Value) (s34 : Store) (k16 : Store → Prop) (a1 : Value) : Prop :=
condH v33 (
vop (faddr 3 v12) s34 fun v35 s36 =>
vop (loadV false 1 v35 s36.get) s36 fun v37 s38 =>
vop (binI .add v37 (.int .i64 1)) s38 fun v39 s40 =>
vop (faddr 3 v12) s40 fun v41 s42 =>
eop (storeV 1 v41 v39 s42) fun _ s44 =>
k16 s44) (
vop (binI .eql a1 (.int .i64 3)) s34 fun v45 s46 =>
condH v45 (
vop (faddr 4 v12) s46 fun v47 s48 =>
vop (loadV false 1 v47 s48.get) s48 fun v49 s50 =>
vop (binI .add v49 (.int .i64 1)) s50 fun v51 s52 =>
vop (faddr 4 v12) s52 fun v53 s54 =>
eop (storeV 1 v53 v51 s54) fun _ s56 =>
k16 s56) (
vop (binI .eql a1 (.int .i64 4)) s46 fun v57 s58 =>
p32_2 v57 v12 s58 k16 a1))
def p32_4 (a1 : Value) (s15 : Store) (v12 : Value) (v2 : Value) (K : Value → Store → Prop) : Prop :=
jop 0 (fun (k16 : Store → Prop) =>
vop (binI .eql a1 (.int .i64 1)) s15 fun v17 s18 =>
condH v17 (
vop (faddr 0 v12) s18 fun v19 s20 =>
vop (faddr 1 v19) s20 fun v21 s22 =>
vop (loadV false 1 v21 s22.get) s22 fun v23 s24 =>
vop (binI .add v23 (.int .i64 1)) s24 fun v25 s26 =>
vop (faddr 0 v12) s26 fun v27 s28 =>
vop (faddr 1 v27) s28 fun v29 s30 =>
eop (storeV 1 v29 v25 s30) fun _ s32 =>
k16 s32) (
vop (binI .eql a1 (.int .i64 2)) s18 fun v33 s34 =>
p32_3 v33 v12 s34 k16 a1)) fun s103 =>
vop (loadV true 9 v12 s103.get) s103 fun v104 s105 =>
eop (storeV 9 v2 v104 s105) fun _ s107 =>
vop (loadV true 9 v2 s107.get) s107 fun v108 _ =>
K v108 s107
/-- undercroft/undercroftlaw08.where -/
def p32 (K : Value → Store → Prop) (a0 a1 : Value) (s : Store) : Prop :=
nop (boxN a0) s fun v0 s1 =>
nop (some (.cells (unrle [(9, (.int .i64 0))]) none, ptrTo)) s1 fun v2 s3 =>
vop (loadV true 3 v0 s3.get) s3 fun v4 s5 =>
Does Try.prog 19 [v4] s5 fun v6 s7 =>
vop (extractV v6 0) s7 fun v8 s9 =>
vop (extractV v6 1) s9 fun _ s11 =>
nop (some (.cells (unrle [(9, (.int .i64 0))]) none, ptrTo)) s11 fun v12 s13 =>
eop (storeV 9 v12 v8 s13) fun _ s15 =>
p32_4 a1 s15 v12 v2 K
theorem e32 (K : Value → Store → Prop) (a0 a1 : Value) (s : Store) : bodyT Try.prog Try.f32 [a0, a1] s K = p32 K a0 a1 s := by kernel_rfl
theorem d32 {K : Value → Store → Prop} {a0 a1 : Value} {s : Store} (h : p32 K a0 a1 s) : Does Try.prog 32 [a0, a1] s K := does_of_print Try.func32 (by kernel_rfl) ((e32 K a0 a1 s).symm ▸ h)
/-- (*undercroft/wal.Log).Steps -/
def p33 (K : Value → Store → Prop) (a0 : Value) (s : Store) : Prop :=
Does Try.prog 36 [a0] s fun v0 s1 =>
vop (binI .neq v0 (.int .i64 0)) s1 fun v2 s3 =>
condH v2 (
K (.int .i64 0) s3) (
vop (nilV a0) s3 fun v4 s5 =>
vop (faddr 18 v4) s5 fun v6 s7 =>
vop (loadV false 1 v6 s7.get) s7 fun v8 s9 =>
K v8 s9)
theorem e33 (K : Value → Store → Prop) (a0 : Value) (s : Store) : bodyT Try.prog Try.f33 [a0] s K = p33 K a0 s := by kernel_rfl
theorem d33 {K : Value → Store → Prop} {a0 : Value} {s : Store} (h : p33 K a0 s) : Does Try.prog 33 [a0] s K := does_of_print Try.func33 (by kernel_rfl) ((e33 K a0 s).symm ▸ h)
/-- (*undercroft/wal.Log).Commits -/
def p34 (K : Value → Store → Prop) (a0 : Value) (s : Store) : Prop :=
Does Try.prog 36 [a0] s fun v0 s1 =>
vop (binI .neq v0 (.int .i64 0)) s1 fun v2 s3 =>
condH v2 (
K (.int .i64 0) s3) (
vop (nilV a0) s3 fun v4 s5 =>
vop (faddr 17 v4) s5 fun v6 s7 =>
vop (loadV false 1 v6 s7.get) s7 fun v8 s9 =>
K v8 s9)
theorem e34 (K : Value → Store → Prop) (a0 : Value) (s : Store) : bodyT Try.prog Try.f34 [a0] s K = p34 K a0 s := by kernel_rfl
theorem d34 {K : Value → Store → Prop} {a0 : Value} {s : Store} (h : p34 K a0 s) : Does Try.prog 34 [a0] s K := does_of_print Try.func34 (by kernel_rfl) ((e34 K a0 s).symm ▸ h)
def p35_1 (v56 : Value) (v58 : Value) (s61 : Store) (v0 : Value) (K : Value → Store → Prop) (a0 : Value) (a1 : Value) : Prop :=
condH v56 (
vop (loadV true 1024 v58 s61.get) s61 fun v62 s63 =>
eop (storeV 1024 v0 v62 s63) fun _ s65 =>
vop (loadV true 1024 v0 s65.get) s65 fun v66 _ =>
K (.tuple #[v66, (.int .i64 0)]) s65) (
vop (nilV a0) s61 fun v67 s68 =>
vop (faddr 1 v67) s68 fun v69 s70 =>
vop (loadV false 1 v69 s70.get) s70 fun v71 s72 =>
vop (lookupH (.int .i64) (.agg (unrle [(1024, (.int .u8 0))]).toArray) v71 a1 false s72.get) s72 fun v73 s74 =>
nop (some (.cells (unrle [(1024, (.int .u8 0))]) none, ptrTo)) s74 fun v75 s76 =>
eop (storeV 1024 v75 v73 s76) fun _ s78 =>
vop (loadV true 1024 v75 s78.get) s78 fun v79 s80 =>
eop (storeV 1024 v0 v79 s80) fun _ s82 =>
vop (loadV true 1024 v0 s82.get) s82 fun v83 _ =>
K (.tuple #[v83, (.int .i64 0)]) s82)
def p35_2 (v34 : Value) (s35 : Store) (a0 : Value) (a1 : Value) (v0 : Value) (K : Value → Store → Prop) : Prop :=
vop (loadV false 1 v34 s35.get) s35 fun v36 s37 =>
vop (binI .add v36 (.int .i64 1)) s37 fun v38 s39 =>
vop (nilV a0) s39 fun v40 s41 =>
vop (faddr 8 v40) s41 fun v42 s43 =>
eop (storeV 1 v42 v38 s43) fun _ s45 =>
vop (nilV a0) s45 fun v46 s47 =>
vop (faddr 2 v46) s47 fun v48 s49 =>
vop (loadV false 1 v48 s49.get) s49 fun v50 s51 =>
vop (lookupH (.int .i64) (.agg (unrle [(1024, (.int .u8 0))]).toArray) v50 a1 true s51.get) s51 fun v52 s53 =>
vop (extractV v52 0) s53 fun v54 s55 =>
vop (extractV v52 1) s55 fun v56 s57 =>
nop (some (.cells (unrle [(1024, (.int .u8 0))]) none, ptrTo)) s57 fun v58 s59 =>
eop (storeV 1024 v58 v54 s59) fun _ s61 =>
p35_1 v56 v58 s61 v0 K a0 a1
def p35_3 (v11 : Value) (s14 : Store) (K : Value → Store → Prop) (a0 : Value) (v13 : Value) (v0 : Value) (a1 : Value) : Prop :=
gop v11 false s14 (fun K => K a0 s14) fun v15 s16 =>
gop v11 false s16 (fun K => vop (nilV v15) s16 K) fun v17 s18 =>
gop v11 false s18 (fun K => vop (faddr 0 v17) s18 K) fun v19 s20 =>
gop v11 false s20 (fun K => vop (loadV false 1 v19 s20.get) s20 K) fun v21 s22 =>
gop v11 false s22 (fun K => vop (binI .geq v13 v21) s22 K) fun v23 s24 =>
vop (pickV v11 (.bool true) v23) s24 fun v25 s26 =>
condH v25 (
vop (aggOf (buildL (List.replicate 1024 (unrle [(1, (.int .u8 0))])) [])) s26 fun v27 s28 =>
eop (storeV 1024 v0 v27 s28) fun _ s30 =>
vop (loadV true 1024 v0 s30.get) s30 fun v31 _ =>
K (.tuple #[v31, (.int .i64 2)]) s30) (
vop (nilV a0) s26 fun v32 s33 =>
vop (faddr 8 v32) s33 fun v34 s35 =>
p35_2 v34 s35 a0 a1 v0 K)
/-- (*undercroft/disk.Disk).Read -/
def p35 (K : Value → Store → Prop) (a0 a1 : Value) (s : Store) : Prop :=
nop (some (.cells (unrle [(1024, (.int .u8 0))]) none, ptrTo)) s fun v0 s1 =>
Does Try.prog 54 [a0] s1 fun v2 s3 =>
vop (binI .neq v2 (.int .i64 0)) s3 fun v4 s5 =>
condH v4 (
vop (aggOf (buildL (List.replicate 1024 (unrle [(1, (.int .u8 0))])) [])) s5 fun v6 s7 =>
eop (storeV 1024 v0 v6 s7) fun _ s9 =>
vop (loadV true 1024 v0 s9.get) s9 fun v10 _ =>
K (.tuple #[v10, v2]) s9) (
vop (binI .lss a1 (.int .i64 0)) s5 fun v11 s12 =>
gop v11 false s12 (fun K => K a1 s12) fun v13 s14 =>
p35_3 v11 s14 K a0 v13 v0 a1)
theorem e35 (K : Value → Store → Prop) (a0 a1 : Value) (s : Store) : bodyT Try.prog Try.f35 [a0, a1] s K = p35 K a0 a1 s := by kernel_rfl
theorem d35 {K : Value → Store → Prop} {a0 a1 : Value} {s : Store} (h : p35 K a0 a1 s) : Does Try.prog 35 [a0, a1] s K := does_of_print Try.func35 (by kernel_rfl) ((e35 K a0 a1 s).symm ▸ h)
/-- (*undercroft/wal.Log).Check -/
def p36 (K : Value → Store → Prop) (a0 : Value) (s : Store) : Prop :=
vop (eqPn false a0 (.pointer none)) s fun v0 s1 =>
gop v0 false s1 (fun K => K a0 s1) fun v2 s3 =>
gop v0 false s3 (fun K => vop (nilV v2) s3 K) fun v4 s5 =>
gop v0 false s5 (fun K => vop (faddr 2 v4) s5 K) fun v6 s7 =>
gop v0 false s7 (fun K => vop (loadV false 1 v6 s7.get) s7 K) fun v8 s9 =>
gop v0 false s9 (fun K => vop (eqPn false v8 (.pointer none)) s9 K) fun v10 s11 =>
vop (pickV v0 (.bool true) v10) s11 fun v12 s13 =>
condH v12 (
K (.int .i64 1) s13) (
vop (nilV a0) s13 fun v14 s15 =>
vop (faddr 2 v14) s15 fun v16 s17 =>
vop (loadV false 1 v16 s13.get) s17 fun v18 _ =>
vop (nilV a0) s17 fun v19 s20 =>
vop (faddr 13 v19) s20 fun v21 s22 =>
vop (loadV false 1 v21 s13.get) s22 fun v23 _ =>
Does Try.prog 55 [v18, v23] s22 fun v24 s25 =>
vop (unV .not v24) s25 fun v26 s27 =>
condH v26 (
K (.int .i64 3) s27) (
K (.int .i64 0) s27))
theorem e36 (K : Value → Store → Prop) (a0 : Value) (s : Store) : bodyT Try.prog Try.f36 [a0] s K = p36 K a0 s := by kernel_rfl
theorem d36 {K : Value → Store → Prop} {a0 : Value} {s : Store} (h : p36 K a0 s) : Does Try.prog 36 [a0] s K := does_of_print Try.func36 (by kernel_rfl) ((e36 K a0 s).symm ▸ h)
/-- (*undercroft/wal.Log).commit$1 -/
def p56 (K : Value → Store → Prop) (a0 a1 : Value) (s : Store) : Prop :=
vop (loadV false 1 a0 s.get) s fun v0 s1 =>
vop (binI .eql v0 (.int .i64 0)) s1 fun v2 s3 =>
condH v2 (
vop (loadV false 1 a1 s3.get) s3 fun v4 s5 =>
nop (some (.map [] 0, fun i => .map (some i))) s5 fun v6 s7 =>
vop (aggOf (buildL [(unrle [(1, (.slice none 0 0))]), (unrle [(1, (.map none))])] [(1, v6)])) s7 fun v8 s9 =>
vop (nilV v4) s9 fun v10 s11 =>
vop (faddr 0 v10) s11 fun v12 s13 =>
eop (storeV 2 v12 v8 s13) fun _ s15 =>
vop (loadV false 1 a1 s15.get) s15 fun v16 s17 =>
vop (nilV v16) s17 fun v18 s19 =>
vop (faddr 17 v18) s19 fun v20 s21 =>
vop (loadV false 1 v20 s21.get) s21 fun v22 s23 =>
vop (binI .add v22 (.int .i64 1)) s23 fun v24 s25 =>
vop (nilV v16) s25 fun v26 s27 =>
vop (faddr 17 v26) s27 fun v28 s29 =>
eop (storeV 1 v28 v24 s29) fun _ s31 =>
K (.tuple #[]) s31) (
K (.tuple #[]) s3)
def p37_1 (v56 : Value) (s57 : Store) (s44 : Store) (x17 : Value) (v39 : Value) (v54 : Value) (v2 : Value) (K : Value → Store → Prop) (v0 : Value) (n16 : Value → Store → Prop) : Prop :=
vop (faddr 4 v56) s57 fun v58 s59 =>
vop (faddr 3 v58) s59 fun v60 s61 =>
vop (loadV false 1 v60 s44.get) s61 fun v62 _ =>
vop (binI .add v62 (.int .i64 1)) s61 fun v63 s64 =>
vop (binI .add v63 x17) s64 fun v65 s66 =>
vop (loadV true 1024 v39 s44.get) s66 fun v67 _ =>
Does Try.prog 49 [v54, v65, v67] s66 fun v68 s69 =>
vop (binI .neq v68 (.int .i64 0)) s69 fun v70 s71 =>
condH v70 (
eop (storeV 1 v2 (.int .i64 3) s71) fun _ s73 =>
p56 (fun _ s74 => vop (loadV false 1 v2 s74.get) s74 fun v75 _ =>
K v75 s74) v2 v0 s73) (
vop (binI .add x17 (.int .i64 1)) s71 fun v76 s77 =>
n16 v76 s77)
def p37_2 (s38 : Store) (v35 : Value) (v37 : Value) (v2 : Value) (K : Value → Store → Prop) (v0 : Value) (x17 : Value) (n16 : Value → Store → Prop) : Prop :=
nop (some (.cells (unrle [(1024, (.int .u8 0))]) none, ptrTo)) s38 fun v39 s40 =>
eop (storeV 1024 v39 v35 s40) fun _ s42 =>
vop (binI .neq v37 (.int .i64 0)) s42 fun v43 s44 =>
condH v43 (
eop (storeV 1 v2 (.int .i64 3) s44) fun _ s46 =>
p56 (fun _ s47 => vop (loadV false 1 v2 s47.get) s47 fun v48 _ =>
K v48 s47) v2 v0 s46) (
vop (loadV false 1 v0 s44.get) s44 fun v49 _ =>
vop (nilV v49) s44 fun v50 s51 =>
vop (faddr 2 v50) s51 fun v52 s53 =>
vop (loadV false 1 v52 s44.get) s53 fun v54 _ =>
vop (loadV false 1 v0 s44.get) s53 fun v55 _ =>
vop (nilV v55) s53 fun v56 s57 =>
p37_1 v56 s57 s44 x17 v39 v54 v2 K v0 n16)
def p37_3 (v171 : Value) (x176 : Value) (s179 : Store) (v0 : Value) (v2 : Value) (K : Value → Store → Prop) (n175 : Value → Store → Prop) : Prop :=
vop (iaddrS 1 v171 x176) s179 fun v180 s181 =>
vop (loadV false 1 v180 s181.get) s181 fun v182 s183 =>
vop (loadV false 1 v0 s183.get) s183 fun v184 s185 =>
vop (nilV v184) s185 fun v186 s187 =>
vop (faddr 3 v186) s187 fun v188 s189 =>
vop (loadV false 1 v188 s189.get) s189 fun v190 s191 =>
Does Try.prog 58 [v190, v182] s191 fun v192 s193 =>
vop (binI .neq v192 (.int .i64 0)) s193 fun v194 s195 =>
condH v194 (
eop (storeV 1 v2 (.int .i64 3) s195) fun _ s197 =>
p56 (fun _ s198 => vop (loadV false 1 v2 s198.get) s198 fun v199 _ =>
K v199 s198) v2 v0 s197) (
vop (binI .add x176 (.int .i64 1)) s195 fun v200 s201 =>
n175 v200 s201)
def p37_4 (v232 : Value) (s233 : Store) (K : Value → Store → Prop) (v0 : Value) (s229 : Store) (v2 : Value) : Prop :=
gop v232 false s233 (fun K => vop (loadV false 1 v0 s229.get) s233 K) fun v234 _ =>
gop v232 false s233 (fun K => vop (nilV v234) s233 K) fun v235 s236 =>
gop v232 false s236 (fun K => vop (faddr 2 v235) s236 K) fun v237 s238 =>
gop v232 false s238 (fun K => vop (loadV false 1 v237 s229.get) s238 K) fun v239 _ =>
gop v232 false s238 (fun K => Does Try.prog 50 [v239] s238 K) fun v240 s241 =>
gop v232 false s241 (fun K => vop (binI .neq v240 (.int .i64 0)) s241 K) fun v242 s243 =>
vop (pickV v232 (.bool true) v242) s243 fun v244 s245 =>
condH v244 (
eop (storeV 1 v2 (.int .i64 3) s245) fun _ s247 =>
p56 (fun _ s248 => vop (loadV false 1 v2 s248.get) s248 fun v249 _ =>
K v249 s248) v2 v0 s247) (
eop (storeV 1 v2 (.int .i64 0) s245) fun _ s251 =>
p56 (fun _ s252 => vop (loadV false 1 v2 s252.get) s252 fun v253 _ =>
K v253 s252) v2 v0 s251)
def p37_5 (v210 : Value) (s211 : Store) (K : Value → Store → Prop) (v0 : Value) (s209 : Store) (v2 : Value) : Prop :=
gop v210 false s211 (fun K => vop (loadV false 1 v0 s209.get) s211 K) fun v212 _ =>
gop v210 false s211 (fun K => vop (nilV v212) s211 K) fun v213 s214 =>
gop v210 false s214 (fun K => vop (faddr 2 v213) s214 K) fun v215 s216 =>
gop v210 false s216 (fun K => vop (loadV false 1 v215 s209.get) s216 K) fun v217 _ =>
gop v210 false s216 (fun K => vop (loadV false 1 v0 s209.get) s216 K) fun v218 _ =>
gop v210 false s216 (fun K => vop (nilV v218) s216 K) fun v219 s220 =>
gop v210 false s220 (fun K => vop (faddr 4 v219) s220 K) fun v221 s222 =>
gop v210 false s222 (fun K => vop (faddr 3 v221) s222 K) fun v223 s224 =>
gop v210 false s224 (fun K => vop (loadV false 1 v223 s209.get) s224 K) fun v225 _ =>
gop v210 false s224 (fun K => vop (aggOf (buildL (List.replicate 1024 (unrle [(1, (.int .u8 0))])) [])) s224 K) fun v226 s227 =>
gop v210 false s227 (fun K => Does Try.prog 49 [v217, v225, v226] s227 K) fun v228 s229 =>
gop v210 false s229 (fun K => vop (binI .neq v228 (.int .i64 0)) s229 K) fun v230 s231 =>
vop (pickV v210 (.bool true) v230) s231 fun v232 s233 =>
p37_4 v232 s233 K v0 s229 v2
def p37_6 (v167 : Value) (s168 : Store) (v0 : Value) (v2 : Value) (K : Value → Store → Prop) : Prop :=
vop (faddr 0 v167) s168 fun v169 s170 =>
vop (loadV false 1 v169 s170.get) s170 fun v171 s172 =>
vop (lenSl v171) s172 fun v173 s174 =>
lop 1 (fun (n175 : Value → Store → Prop) x176 s177 =>
vop (binI .lss x176 v173) s177 fun v178 s179 =>
condH v178 (
p37_3 v171 x176 s179 v0 v2 K n175) (
vop (loadV false 1 v0 s179.get) s179 fun v202 _ =>
vop (nilV v202) s179 fun v203 s204 =>
vop (faddr 2 v203) s204 fun v205 s206 =>
vop (loadV false 1 v205 s179.get) s206 fun v207 _ =>
Does Try.prog 50 [v207] s206 fun v208 s209 =>
vop (binI .neq v208 (.int .i64 0)) s209 fun v210 s211 =>
p37_5 v210 s211 K v0 s209 v2)) (.int .i64 0) s174
def p37_7 (v145 : Value) (s146 : Store) (K : Value → Store → Prop) (v0 : Value) (s142 : Store) (v2 : Value) : Prop :=
gop v145 false s146 (fun K => vop (loadV false 1 v0 s142.get) s146 K) fun v147 _ =>
gop v145 false s146 (fun K => vop (nilV v147) s146 K) fun v148 s149 =>
gop v145 false s149 (fun K => vop (faddr 2 v148) s149 K) fun v150 s151 =>
gop v145 false s151 (fun K => vop (loadV false 1 v150 s142.get) s151 K) fun v152 _ =>
gop v145 false s151 (fun K => Does Try.prog 50 [v152] s151 K) fun v153 s154 =>
gop v145 false s154 (fun K => vop (binI .neq v153 (.int .i64 0)) s154 K) fun v155 s156 =>
vop (pickV v145 (.bool true) v155) s156 fun v157 s158 =>
condH v157 (
eop (storeV 1 v2 (.int .i64 3) s158) fun _ s160 =>
p56 (fun _ s161 => vop (loadV false 1 v2 s161.get) s161 fun v162 _ =>
K v162 s161) v2 v0 s160) (
vop (loadV false 1 v0 s158.get) s158 fun v163 s164 =>
vop (nilV v163) s164 fun v165 s166 =>
vop (faddr 0 v165) s166 fun v167 s168 =>
p37_6 v167 s168 v0 v2 K)
def p37_8 (v124 : Value) (s125 : Store) (K : Value → Store → Prop) (v0 : Value) (s123 : Store) (v98 : Value) (v2 : Value) : Prop :=
gop v124 false s125 (fun K => vop (loadV false 1 v0 s123.get) s125 K) fun v126 _ =>
gop v124 false s125 (fun K => vop (nilV v126) s125 K) fun v127 s128 =>
gop v124 false s128 (fun K => vop (faddr 2 v127) s128 K) fun v129 s130 =>
gop v124 false s130 (fun K => vop (loadV false 1 v129 s123.get) s130 K) fun v131 _ =>
gop v124 false s130 (fun K => vop (loadV false 1 v0 s123.get) s130 K) fun v132 _ =>
gop v124 false s130 (fun K => vop (nilV v132) s130 K) fun v133 s134 =>
gop v124 false s134 (fun K => vop (faddr 4 v133) s134 K) fun v135 s136 =>
gop v124 false s136 (fun K => vop (faddr 3 v135) s136 K) fun v137 s138 =>
gop v124 false s138 (fun K => vop (loadV false 1 v137 s123.get) s138 K) fun v139 _ =>
gop v124 false s138 (fun K => vop (loadV true 1024 v98 s123.get) s138 K) fun v140 _ =>
gop v124 false s138 (fun K => Does Try.prog 49 [v131, v139, v140] s138 K) fun v141 s142 =>
gop v124 false s142 (fun K => vop (binI .neq v141 (.int .i64 0)) s142 K) fun v143 s144 =>
vop (pickV v124 (.bool true) v143) s144 fun v145 s146 =>
p37_7 v145 s146 K v0 s142 v2
def p37_9 (v2 : Value) (s105 : Store) (K : Value → Store → Prop) (v0 : Value) (v98 : Value) : Prop :=
vop (loadV false 1 v2 s105.get) s105 fun v106 s107 =>
vop (binI .neq v106 (.int .i64 0)) s107 fun v108 s109 =>
condH v108 (
vop (loadV false 1 v2 s109.get) s109 fun v110 s111 =>
eop (storeV 1 v2 v110 s111) fun _ s113 =>
p56 (fun _ s114 => vop (loadV false 1 v2 s114.get) s114 fun v115 _ =>
K v115 s114) v2 v0 s113) (
vop (loadV false 1 v0 s109.get) s109 fun v116 _ =>
vop (nilV v116) s109 fun v117 s118 =>
vop (faddr 2 v117) s118 fun v119 s120 =>
vop (loadV false 1 v119 s109.get) s120 fun v121 _ =>
Does Try.prog 50 [v121] s120 fun v122 s123 =>
vop (binI .neq v122 (.int .i64 0)) s123 fun v124 s125 =>
p37_8 v124 s125 K v0 s123 v98 v2)
def p37_10 (v81 : Value) (s20 : Store) (s82 : Store) (v0 : Value) (v2 : Value) (K : Value → Store → Prop) : Prop :=
vop (loadV true 9 v81 s20.get) s82 fun v83 _ =>
vop (loadV false 1 v0 s20.get) s82 fun v84 _ =>
vop (nilV v84) s82 fun v85 s86 =>
vop (faddr 0 v85) s86 fun v87 s88 =>
vop (faddr 0 v87) s88 fun v89 s90 =>
vop (loadV false 1 v89 s20.get) s90 fun v91 _ =>
vop (aggOf (buildL [(unrle [(1, (.slice none 0 0))])] [(0, v91)])) s90 fun v92 s93 =>
Does Try.prog 16 [v83, v92] s93 fun v94 s95 =>
vop (extractV v94 0) s95 fun v96 s97 =>
nop (some (.cells (unrle [(1024, (.int .u8 0))]) none, ptrTo)) s97 fun v98 s99 =>
eop (storeV 1024 v98 v96 s99) fun _ s101 =>
vop (extractV v94 1) s101 fun v102 s103 =>
eop (storeV 1 v2 v102 s103) fun _ s105 =>
p37_9 v2 s105 K v0 v98
def p37_11 (v19 : Value) (v12 : Value) (x17 : Value) (s20 : Store) (v0 : Value) (v2 : Value) (K : Value → Store → Prop) (n16 : Value → Store → Prop) : Prop :=
condH v19 (
vop (iaddrS 1 v12 x17) s20 fun v21 s22 =>
vop (loadV false 1 v21 s22.get) s22 fun v23 s24 =>
vop (loadV false 1 v0 s24.get) s24 fun v25 s26 =>
vop (nilV v25) s26 fun v27 s28 =>
vop (faddr 3 v27) s28 fun v29 s30 =>
vop (loadV false 1 v29 s30.get) s30 fun v31 s32 =>
Does Try.prog 57 [v31, v23] s32 fun v33 s34 =>
vop (extractV v33 0) s34 fun v35 s36 =>
vop (extractV v33 1) s36 fun v37 s38 =>
p37_2 s38 v35 v37 v2 K v0 x17 n16) (
vop (loadV false 1 v0 s20.get) s20 fun v78 _ =>
vop (nilV v78) s20 fun v79 s80 =>
vop (faddr 4 v79) s80 fun v81 s82 =>
p37_10 v81 s20 s82 v0 v2 K)
/-- (*undercroft/wal.Log).commit -/
def p37 (K : Value → Store → Prop) (a0 : Value) (s : Store) : Prop :=
nop (boxN a0) s fun v0 s1 =>
nop (some (.cells (unrle [(1, (.int .i64 0))]) none, ptrTo)) s1 fun v2 s3 =>
vop (loadV false 1 v0 s3.get) s3 fun v4 s5 =>
vop (nilV v4) s5 fun v6 s7 =>
vop (faddr 0 v6) s7 fun v8 s9 =>
vop (faddr 0 v8) s9 fun v10 s11 =>
vop (loadV false 1 v10 s11.get) s11 fun v12 s13 =>
vop (lenSl v12) s13 fun v14 s15 =>
lop 1 (fun (n16 : Value → Store → Prop) x17 s18 =>
vop (binI .lss x17 v14) s18 fun v19 s20 =>
p37_11 v19 v12 x17 s20 v0 v2 K n16) (.int .i64 0) s15
theorem e37 (K : Value → Store → Prop) (a0 : Value) (s : Store) : bodyTO Try.prog Try.f37 Try.f56 [a0] s K = p37 K a0 s := by kernel_rfl
theorem d37 {K : Value → Store → Prop} {a0 : Value} {s : Store} (h : p37 K a0 s) : Does Try.prog 37 [a0] s K := does_of_off_print Try.func37 Try.func56 (by kernel_rfl) ((e37 K a0 s).symm ▸ h)
/-- (*undercroft/wal.Log).logs -/
def p38 (K : Value → Store → Prop) (a0 a1 : Value) (s : Store) : Prop :=
vop (nilV a0) s fun v0 s1 =>
vop (faddr 4 v0) s1 fun v2 s3 =>
vop (faddr 3 v2) s3 fun v4 s5 =>
vop (loadV false 1 v4 s.get) s5 fun v6 _ =>
vop (binI .geq a1 v6) s5 fun v7 s8 =>
gop v7 true s8 (fun K => K a1 s8) fun v9 s10 =>
gop v7 true s10 (fun K => K a0 s10) fun v11 s12 =>
gop v7 true s12 (fun K => vop (nilV v11) s12 K) fun v13 s14 =>
gop v7 true s14 (fun K => vop (faddr 4 v13) s14 K) fun v15 s16 =>
gop v7 true s16 (fun K => vop (faddr 3 v15) s16 K) fun v17 s18 =>
gop v7 true s18 (fun K => vop (loadV false 1 v17 s.get) s18 K) fun v19 _ =>
gop v7 true s18 (fun K => K a0 s18) fun v20 s21 =>
gop v7 true s21 (fun K => vop (nilV v20) s21 K) fun v22 s23 =>
gop v7 true s23 (fun K => vop (faddr 4 v22) s23 K) fun v24 s25 =>
gop v7 true s25 (fun K => vop (faddr 0 v24) s25 K) fun v26 s27 =>
gop v7 true s27 (fun K => vop (faddr 1 v26) s27 K) fun v28 s29 =>
gop v7 true s29 (fun K => vop (loadV false 1 v28 s.get) s29 K) fun v30 _ =>
gop v7 true s29 (fun K => vop (binI .add v19 v30) s29 K) fun v31 s32 =>
gop v7 true s32 (fun K => vop (binI .lss v9 v31) s32 K) fun v33 s34 =>
vop (pickV v7 v33 (.bool false)) s34 fun v35 s36 =>
K v35 s36
theorem e38 (K : Value → Store → Prop) (a0 a1 : Value) (s : Store) : bodyT Try.prog Try.f38 [a0, a1] s K = p38 K a0 a1 s := by kernel_rfl
theorem d38 {K : Value → Store → Prop} {a0 a1 : Value} {s : Store} (h : p38 K a0 a1 s) : Does Try.prog 38 [a0, a1] s K := does_of_print Try.func38 (by kernel_rfl) ((e38 K a0 a1 s).symm ▸ h)
def p39_1 (v44 : Value) (s45 : Store) (x37 : Value) (a0 : Value) (k39 : Store → Prop) : Prop :=
vop (unV .not v44) s45 fun v46 s47 =>
condH v46 (
vop (nilV x37) s47 fun v48 s49 =>
vop (faddr 1025 v48) s49 fun v50 s51 =>
eop (storeV 1 v50 (.bool true) s51) fun _ s53 =>
vop (nilV a0) s53 fun v54 s55 =>
vop (faddr 2 v54) s55 fun v56 s57 =>
vop (loadV false 1 v56 s57.get) s57 fun v58 s59 =>
vop (binI .add v58 (.int .i64 1)) s59 fun v60 s61 =>
vop (nilV a0) s61 fun v62 s63 =>
vop (faddr 2 v62) s63 fun v64 s65 =>
eop (storeV 1 v64 v60 s65) fun _ s67 =>
k39 s67) (
k39 s47)
def p39_2 (v16 : Value) (v14 : Value) (s17 : Store) (k18 : Value → Store → Prop) (a0 : Value) (K : Value → Store → Prop) (a1 : Value) : Prop :=
condH v16 (
Does Try.prog 60 [v14] s17 fun _ s20 =>
k18 v14 s20) (
Does Try.prog 61 [a0] s17 fun v21 s22 =>
vop (unV .not v21) s22 fun v23 s24 =>
condH v23 (
K (.int .i64 160) s24) (
vop (aggOf (buildL [(unrle [(1, (.int .i64 0))]), (unrle [(1024, (.int .u8 0))]), (unrle [(1, (.bool false))]), (unrle [(1, (.pointer none))]), (unrle [(1, (.pointer none))])] [(0, a1)])) s24 fun v25 s26 =>
nop (boxN v25) s26 fun v27 s28 =>
vop (nilV a0) s28 fun v29 s30 =>
vop (faddr 1031 v29) s30 fun v31 s32 =>
vop (loadV false 1 v31 s32.get) s32 fun v33 s34 =>
eop (updH (.int .i64) v33 a1 v27 s34) fun _ s36 =>
k18 v27 s36))
def p39_3 (v12 : Value) (s15 : Store) (v14 : Value) (a0 : Value) (K : Value → Store → Prop) (a1 : Value) (v0 : Value) : Prop :=
vop (extractV v12 1) s15 fun v16 s17 =>
jop 1 (fun (k18 : Value → Store → Prop) =>
p39_2 v16 v14 s17 k18 a0 K a1) fun x37 s38 =>
jop 0 (fun (k39 : Store → Prop) =>
vop (nilV x37) s38 fun v40 s41 =>
vop (faddr 1025 v40) s41 fun v42 s43 =>
vop (loadV false 1 v42 s43.get) s43 fun v44 s45 =>
p39_1 v44 s45 x37 a0 k39) fun s68 =>
vop (loadV true 1024 v0 s68.get) s68 fun v69 s70 =>
vop (nilV x37) s70 fun v71 s72 =>
vop (faddr 1 v71) s72 fun v73 s74 =>
eop (storeV 1024 v73 v69 s74) fun _ s76 =>
Does Try.prog 62 [a0, x37] s76 fun _ s78 =>
K (.int .i64 0) s78
/-- (*undercroft/cache.Cache).Put -/
def p39 (K : Value → Store → Prop) (a0 a1 a2 : Value) (s : Store) : Prop :=
nop (boxN a2) s fun v0 s1 =>
Does Try.prog 59 [a0, a1] s1 fun v2 s3 =>
vop (binI .neq v2 (.int .i64 0)) s3 fun v4 s5 =>
condH v4 (
K v2 s5) (
vop (nilV a0) s5 fun v6 s7 =>
vop (faddr 1031 v6) s7 fun v8 s9 =>
vop (loadV false 1 v8 s9.get) s9 fun v10 s11 =>
vop (lookupH (.int .i64) (.pointer none) v10 a1 true s11.get) s11 fun v12 s13 =>
vop (extractV v12 0) s13 fun v14 s15 =>
p39_3 v12 s15 v14 a0 K a1 v0)
theorem e39 (K : Value → Store → Prop) (a0 a1 a2 : Value) (s : Store) : bodyT Try.prog Try.f39 [a0, a1, a2] s K = p39 K a0 a1 a2 s := by kernel_rfl
theorem d39 {K : Value → Store → Prop} {a0 a1 a2 : Value} {s : Store} (h : p39 K a0 a1 a2 s) : Does Try.prog 39 [a0, a1, a2] s K := does_of_print Try.func39 (by kernel_rfl) ((e39 K a0 a1 a2 s).symm ▸ h)
/-- (*undercroft/wal.group).add -/
def p40 (K : Value → Store → Prop) (a0 a1 : Value) (s : Store) : Prop :=
vop (nilV a0) s fun v0 s1 =>
vop (faddr 1 v0) s1 fun v2 s3 =>
vop (loadV false 1 v2 s3.get) s3 fun v4 s5 =>
vop (lookupH (.int .i64) (.agg (unrle []).toArray) v4 a1 true s5.get) s5 fun v6 s7 =>
vop (extractV v6 0) s7 fun v8 s9 =>
vop (extractV v6 1) s9 fun v10 s11 =>
nop (some (.cells (unrle []) none, ptrTo)) s11 fun v12 s13 =>
eop (storeV 0 v12 v8 s13) fun _ s15 =>
vop (unV .not v10) s15 fun v16 s17 =>
condH v16 (
vop (nilV a0) s17 fun v18 s19 =>
vop (faddr 0 v18) s19 fun v20 s21 =>
vop (loadV false 1 v20 s21.get) s21 fun v22 s23 =>
nop (sliceOf 1 (buildL (List.replicate 1 (unrle [(1, (.int .i64 0))])) [(0, a1)])) s23 fun v24 s25 =>
eop (appendV 1 8 v22 v24 s25) fun v26 s27 =>
vop (nilV a0) s27 fun v28 s29 =>
vop (faddr 0 v28) s29 fun v30 s31 =>
eop (storeV 1 v30 v26 s31) fun _ s33 =>
vop (nilV a0) s33 fun v34 s35 =>
vop (faddr 1 v34) s35 fun v36 s37 =>
vop (loadV false 1 v36 s37.get) s37 fun v38 s39 =>
vop (aggOf (buildL [] [])) s39 fun v40 s41 =>
eop (updH (.int .i64) v38 a1 v40 s41) fun _ s43 =>
K (.tuple #[]) s43) (
K (.tuple #[]) s17)
theorem e40 (K : Value → Store → Prop) (a0 a1 : Value) (s : Store) : bodyT Try.prog Try.f40 [a0, a1] s K = p40 K a0 a1 s := by kernel_rfl
theorem d40 {K : Value → Store → Prop} {a0 a1 : Value} {s : Store} (h : p40 K a0 a1 s) : Does Try.prog 40 [a0, a1] s K := does_of_print Try.func40 (by kernel_rfl) ((e40 K a0 a1 s).symm ▸ h)
/-- (*undercroft/disk.Disk).is -/
def p41 (K : Value → Store → Prop) (a0 : Value) (s : Store) : Prop :=
vop (eqPn true a0 (.pointer none)) s fun v0 s1 =>
gop v0 true s1 (fun K => K a0 s1) fun v2 s3 =>
gop v0 true s3 (fun K => vop (nilV v2) s3 K) fun v4 s5 =>
gop v0 true s5 (fun K => vop (faddr 0 v4) s5 K) fun v6 s7 =>
gop v0 true s7 (fun K => vop (loadV false 1 v6 s7.get) s7 K) fun v8 s9 =>
gop v0 true s9 (fun K => vop (binI .gtr v8 (.int .i64 0)) s9 K) fun v10 s11 =>
vop (pickV v0 v10 (.bool false)) s11 fun v12 s13 =>
K v12 s13
theorem e41 (K : Value → Store → Prop) (a0 : Value) (s : Store) : bodyT Try.prog Try.f41 [a0] s K = p41 K a0 s := by kernel_rfl
theorem d41 {K : Value → Store → Prop} {a0 : Value} {s : Store} (h : p41 K a0 s) : Does Try.prog 41 [a0] s K := does_of_print Try.func41 (by kernel_rfl) ((e41 K a0 s).symm ▸ h)
/-- undercroft/head.fits -/
def p42 (K : Value → Store → Prop) (a0 : Value) (s : Store) : Prop :=
nop (boxN a0) s fun v0 s1 =>
vop (faddr 0 v0) s1 fun v2 s3 =>
vop (loadV true 3 v2 s3.get) s3 fun v4 s5 =>
Does Try.prog 63 [v4] s5 fun v6 s7 =>
vop (extractV v6 0) s7 fun v8 s9 =>
vop (extractV v6 1) s9 fun v10 s11 =>
nop (some (.cells (unrle [(9, (.int .i64 0))]) none, ptrTo)) s11 fun v12 s13 =>
eop (storeV 9 v12 v8 s13) fun _ s15 =>
vop (binI .eql v10 (.int .i64 0)) s15 fun v16 s17 =>
gop v16 true s17 (fun K => vop (loadV true 9 v12 s17.get) s17 K) fun v18 s19 =>
gop v16 true s19 (fun K => vop (loadV true 9 v0 s19.get) s19 K) fun v20 s21 =>
gop v16 true s21 (fun K => vop (eqA (.fields [(0, 3, (.fields [(0, 1, (.one (.int .i64))), (1, 1, (.one (.int .i64))), (2, 1, (.one (.int .i64)))])), (3, 1, (.one (.int .i64))), (4, 1, (.one (.int .i64))), (5, 1, (.one (.int .i64))), (6, 1, (.one (.int .i64))), (7, 1, (.one (.int .i64))), (8, 1, (.one (.int .i64)))]) false v18 v20) s21 K) fun v22 s23 =>
vop (pickV v16 v22 (.bool false)) s23 fun v24 s25 =>
K v24 s25
theorem e42 (K : Value → Store → Prop) (a0 : Value) (s : Store) : bodyT Try.prog Try.f42 [a0] s K = p42 K a0 s := by kernel_rfl
theorem d42 {K : Value → Store → Prop} {a0 : Value} {s : Store} (h : p42 K a0 s) : Does Try.prog 42 [a0] s K := does_of_print Try.func42 (by kernel_rfl) ((e42 K a0 s).symm ▸ h)
/-- undercroft/head.may -/
def p43 (K : Value → Store → Prop) (a0 a1 : Value) (s : Store) : Prop :=
nop (boxN a0) s fun v0 s1 =>
vop (lenSl a1) s1 fun v2 s3 =>
vop (faddr 0 v0) s3 fun v4 s5 =>
vop (faddr 1 v4) s5 fun v6 s7 =>
vop (loadV false 1 v6 s7.get) s7 fun v8 s9 =>
vop (binI .sub v8 (.int .i64 1)) s9 fun v10 s11 =>
vop (binI .gtr v2 v10) s11 fun v12 s13 =>
condH v12 (
K (.bool false) s13) (
nop (some (.map [] 0, fun i => .map (some i))) s13 fun v14 s15 =>
vop (lenSl a1) s15 fun v16 s17 =>
lop 1 (fun (n18 : Value → Store → Prop) x19 s20 =>
vop (binI .lss x19 v16) s20 fun v21 s22 =>
condH v21 (
vop (iaddrS 1 a1 x19) s22 fun v23 s24 =>
vop (loadV false 1 v23 s24.get) s24 fun v25 s26 =>
vop (lookupH (.int .i64) (.agg (unrle []).toArray) v14 v25 true s26.get) s26 fun v27 s28 =>
vop (extractV v27 0) s28 fun v29 s30 =>
vop (extractV v27 1) s30 fun v31 s32 =>
nop (some (.cells (unrle []) none, ptrTo)) s32 fun v33 s34 =>
eop (storeV 0 v33 v29 s34) fun _ s36 =>
gop v31 false s36 (fun K => K v25 s36) fun v37 s38 =>
gop v31 false s38 (fun K => vop (faddr 0 v0) s38 K) fun v39 s40 =>
gop v31 false s40 (fun K => vop (faddr 1 v39) s40 K) fun v41 s42 =>
gop v31 false s42 (fun K => vop (loadV false 1 v41 s42.get) s42 K) fun v43 s44 =>
gop v31 false s44 (fun K => vop (binI .add (.int .i64 1) v43) s44 K) fun v45 s46 =>
gop v31 false s46 (fun K => vop (binI .lss v37 v45) s46 K) fun v47 s48 =>
vop (pickV v31 (.bool true) v47) s48 fun v49 s50 =>
gop v49 false s50 (fun K => K v25 s50) fun v51 s52 =>
gop v49 false s52 (fun K => vop (faddr 0 v0) s52 K) fun v53 s54 =>
gop v49 false s54 (fun K => vop (faddr 0 v53) s54 K) fun v55 s56 =>
gop v49 false s56 (fun K => vop (loadV false 1 v55 s56.get) s56 K) fun v57 s58 =>
gop v49 false s58 (fun K => vop (binI .geq v51 v57) s58 K) fun v59 s60 =>
vop (pickV v49 (.bool true) v59) s60 fun v61 s62 =>
condH v61 (
K (.bool false) s62) (
vop (aggOf (buildL [] [])) s62 fun v63 s64 =>
eop (updH (.int .i64) v14 v25 v63 s64) fun _ s66 =>
vop (binI .add x19 (.int .i64 1)) s66 fun v67 s68 =>
n18 v67 s68)) (
K (.bool true) s22)) (.int .i64 0) s17)
theorem e43 (K : Value → Store → Prop) (a0 a1 : Value) (s : Store) : bodyT Try.prog Try.f43 [a0, a1] s K = p43 K a0 a1 s := by kernel_rfl
theorem d43 {K : Value → Store → Prop} {a0 a1 : Value} {s : Store} (h : p43 K a0 a1 s) : Does Try.prog 43 [a0, a1] s K := does_of_print Try.func43 (by kernel_rfl) ((e43 K a0 a1 s).symm ▸ h)
/-- undercroft/slab.SetU32 -/
def p44 (K : Value → Store → Prop) (a0 a1 a2 : Value) (s : Store) : Prop :=
nop (boxN a0) s fun v0 s1 =>
nop (some (.cells (unrle [(1024, (.int .u8 0))]) none, ptrTo)) s1 fun v2 s3 =>
jop 0 (fun (k4 : Store → Prop) =>
Does Try.prog 64 [a1, (.int .i64 4)] s3 fun v5 s6 =>
condH v5 (
lop 1 (fun (n7 : Value → Store → Prop) x8 s9 =>
vop (binI .lss x8 (.int .i64 4)) s9 fun v10 s11 =>
condH v10 (
vop (binI .add a1 x8) s11 fun v12 s13 =>
vop (binI .mul (.int .i64 8) x8) s13 fun v14 s15 =>
vop (shiftV .shr a2 v14) s15 fun v16 s17 =>
vop (convI .u8 v16) s17 fun v18 s19 =>
vop (iaddrA 1024 1 v0 v12) s19 fun v20 s21 =>
eop (storeV 1 v20 v18 s21) fun _ s23 =>
vop (binI .add x8 (.int .i64 1)) s23 fun v24 s25 =>
n7 v24 s25) (
k4 s11)) (.int .i64 0) s6) (
k4 s6)) fun s26 =>
vop (loadV true 1024 v0 s26.get) s26 fun v27 s28 =>
eop (storeV 1024 v2 v27 s28) fun _ s30 =>
vop (loadV true 1024 v2 s30.get) s30 fun v31 _ =>
K v31 s30
theorem e44 (K : Value → Store → Prop) (a0 a1 a2 : Value) (s : Store) : bodyT Try.prog Try.f44 [a0, a1, a2] s K = p44 K a0 a1 a2 s := by kernel_rfl
theorem d44 {K : Value → Store → Prop} {a0 a1 a2 : Value} {s : Store} (h : p44 K a0 a1 a2 s) : Does Try.prog 44 [a0, a1, a2] s K := does_of_print Try.func44 (by kernel_rfl) ((e44 K a0 a1 a2 s).symm ▸ h)
/-- undercroft/slab.U32 -/
def p45 (K : Value → Store → Prop) (a0 a1 : Value) (s : Store) : Prop :=
nop (boxN a0) s fun v0 s1 =>
Does Try.prog 64 [a1, (.int .i64 4)] s1 fun v2 s3 =>
vop (unV .not v2) s3 fun v4 s5 =>
condH v4 (
K (.int .u32 0) s5) (
vop (iaddrA 1024 1 v0 a1) s5 fun v6 s7 =>
vop (loadV false 1 v6 s5.get) s7 fun v8 _ =>
vop (convI .u32 v8) s7 fun v9 s10 =>
vop (binI .add a1 (.int .i64 1)) s10 fun v11 s12 =>
vop (iaddrA 1024 1 v0 v11) s12 fun v13 s14 =>
vop (loadV false 1 v13 s5.get) s14 fun v15 _ =>
vop (convI .u32 v15) s14 fun v16 s17 =>
vop (shiftV .shl v16 (.int .u64 8)) s17 fun v18 s19 =>
vop (binI .or v9 v18) s19 fun v20 s21 =>
vop (binI .add a1 (.int .i64 2)) s21 fun v22 s23 =>
vop (iaddrA 1024 1 v0 v22) s23 fun v24 s25 =>
vop (loadV false 1 v24 s5.get) s25 fun v26 _ =>
vop (convI .u32 v26) s25 fun v27 s28 =>
vop (shiftV .shl v27 (.int .u64 16)) s28 fun v29 s30 =>
vop (binI .or v20 v29) s30 fun v31 s32 =>
vop (binI .add a1 (.int .i64 3)) s32 fun v33 s34 =>
vop (iaddrA 1024 1 v0 v33) s34 fun v35 s36 =>
vop (loadV false 1 v35 s5.get) s36 fun v37 _ =>
vop (convI .u32 v37) s36 fun v38 s39 =>
vop (shiftV .shl v38 (.int .u64 24)) s39 fun v40 s41 =>
vop (binI .or v31 v40) s41 fun v42 s43 =>
K v42 s43)
theorem e45 (K : Value → Store → Prop) (a0 a1 : Value) (s : Store) : bodyT Try.prog Try.f45 [a0, a1] s K = p45 K a0 a1 s := by kernel_rfl
theorem d45 {K : Value → Store → Prop} {a0 a1 : Value} {s : Store} (h : p45 K a0 a1 s) : Does Try.prog 45 [a0, a1] s K := does_of_print Try.func45 (by kernel_rfl) ((e45 K a0 a1 s).symm ▸ h)
def p46_1 (v61 : Value) (s66 : Store) (v2 : Value) (K : Value → Store → Prop) (v0 : Value) (v63 : Value) : Prop :=
vop (binI .neq v61 (.int .i64 0)) s66 fun v67 s68 =>
condH v67 (
vop (aggOf (buildL [(unrle [(1, (.slice none 0 0))])] [])) s68 fun v69 s70 =>
eop (storeV 1 v2 v69 s70) fun _ s72 =>
vop (loadV true 1 v2 s72.get) s72 fun v73 _ =>
K (.tuple #[v73, (.int .i64 3)]) s72) (
vop (loadV true 9 v0 s68.get) s68 fun v74 s75 =>
vop (loadV true 1024 v63 s75.get) s75 fun v76 s77 =>
Does Try.prog 23 [v74, v76] s77 fun v78 s79 =>
vop (extractV v78 0) s79 fun v80 s81 =>
vop (extractV v78 1) s81 fun v82 s83 =>
eop (storeV 1 v2 v80 s83) fun _ s85 =>
vop (loadV true 1 v2 s85.get) s85 fun v86 _ =>
K (.tuple #[v86, v82]) s85)
def p46_2 (v33 : Value) (v44 : Value) (s45 : Store) (v2 : Value) (K : Value → Store → Prop) (v0 : Value) (a0 : Value) : Prop :=
vop (pickV v33 (.bool true) v44) s45 fun v46 s47 =>
condH v46 (
vop (aggOf (buildL [(unrle [(1, (.slice none 0 0))])] [])) s47 fun v48 s49 =>
eop (storeV 1 v2 v48 s49) fun _ s51 =>
vop (loadV true 1 v2 s51.get) s51 fun v52 _ =>
K (.tuple #[v52, (.int .i64 2)]) s51) (
vop (faddr 3 v0) s47 fun v53 s54 =>
vop (loadV false 1 v53 s54.get) s54 fun v55 s56 =>
Does Try.prog 35 [a0, v55] s56 fun v57 s58 =>
vop (extractV v57 0) s58 fun v59 s60 =>
vop (extractV v57 1) s60 fun v61 s62 =>
nop (some (.cells (unrle [(1024, (.int .u8 0))]) none, ptrTo)) s62 fun v63 s64 =>
eop (storeV 1024 v63 v59 s64) fun _ s66 =>
p46_1 v61 s66 v2 K v0 v63)
def p46_3 (v23 : Value) (v19 : Value) (s24 : Store) (v21 : Value) (K : Value → Store → Prop) (v0 : Value) (a0 : Value) (v2 : Value) : Prop :=
eop (storeV 9 v23 v19 s24) fun _ s26 =>
vop (binI .neq v21 (.int .i64 0)) s26 fun v27 s28 =>
gop v27 false s28 (fun K => vop (loadV true 9 v23 s26.get) s28 K) fun v29 _ =>
gop v27 false s28 (fun K => vop (loadV true 9 v0 s26.get) s28 K) fun v30 _ =>
gop v27 false s28 (fun K => vop (eqA (.fields [(0, 3, (.fields [(0, 1, (.one (.int .i64))), (1, 1, (.one (.int .i64))), (2, 1, (.one (.int .i64)))])), (3, 1, (.one (.int .i64))), (4, 1, (.one (.int .i64))), (5, 1, (.one (.int .i64))), (6, 1, (.one (.int .i64))), (7, 1, (.one (.int .i64))), (8, 1, (.one (.int .i64)))]) true v29 v30) s28 K) fun v31 s32 =>
vop (pickV v27 (.bool true) v31) s32 fun v33 s34 =>
gop v33 false s34 (fun K => K a0 s34) fun v35 s36 =>
gop v33 false s36 (fun K => Does Try.prog 66 [v35] s36 K) fun v37 s38 =>
gop v33 false s38 (fun K => vop (faddr 0 v0) s38 K) fun v39 s40 =>
gop v33 false s40 (fun K => vop (faddr 0 v39) s40 K) fun v41 s42 =>
gop v33 false s42 (fun K => vop (loadV false 1 v41 s38.get) s42 K) fun v43 _ =>
kop (gsel v33 false (loadV false 1 v41) s26.get) v43 (
gop v33 false s42 (fun K => vop (binI .gtr v43 v37) s42 K) fun v44 s45 =>
p46_2 v33 v44 s45 v2 K v0 a0)
def p46_4 (a0 : Value) (s3 : Store) (v2 : Value) (K : Value → Store → Prop) (v0 : Value) : Prop :=
Does Try.prog 65 [a0] s3 fun v4 s5 =>
vop (unV .not v4) s5 fun v6 s7 =>
condH v6 (
vop (aggOf (buildL [(unrle [(1, (.slice none 0 0))])] [])) s7 fun v8 s9 =>
eop (storeV 1 v2 v8 s9) fun _ s11 =>
vop (loadV true 1 v2 s11.get) s11 fun v12 _ =>
K (.tuple #[v12, (.int .i64 1)]) s11) (
vop (faddr 0 v0) s7 fun v13 s14 =>
vop (loadV true 3 v13 s14.get) s14 fun v15 s16 =>
Does Try.prog 63 [v15] s16 fun v17 s18 =>
vop (extractV v17 0) s18 fun v19 s20 =>
vop (extractV v17 1) s20 fun v21 s22 =>
nop (some (.cells (unrle [(9, (.int .i64 0))]) none, ptrTo)) s22 fun v23 s24 =>
p46_3 v23 v19 s24 v21 K v0 a0 v2)
/-- undercroft/wal.header -/
def p46 (K : Value → Store → Prop) (a0 a1 : Value) (s : Store) : Prop :=
nop (boxN a1) s fun v0 s1 =>
nop (some (.cells (unrle [(1, (.slice none 0 0))]) none, ptrTo)) s1 fun v2 s3 =>
p46_4 a0 s3 v2 K v0
theorem e46 (K : Value → Store → Prop) (a0 a1 : Value) (s : Store) : bodyT Try.prog Try.f46 [a0, a1] s K = p46 K a0 a1 s := by kernel_rfl
theorem d46 {K : Value → Store → Prop} {a0 a1 : Value} {s : Store} (h : p46 K a0 a1 s) : Does Try.prog 46 [a0, a1] s K := does_of_print Try.func46 (by kernel_rfl) ((e46 K a0 a1 s).symm ▸ h)
/-- undercroft/cache.New -/
def p47 (K : Value → Store → Prop) (a0 a1 : Value) (s : Store) : Prop :=
Does Try.prog 66 [a0] s fun v0 s1 =>
vop (binI .eql v0 (.int .i64 0)) s1 fun v2 s3 =>
condH v2 (
K (.tuple #[(.pointer none), (.int .i64 1)]) s3) (
vop (binI .lss a1 (.int .i64 1)) s3 fun v4 s5 =>
gop v4 false s5 (fun K => K a1 s5) fun v6 s7 =>
gop v4 false s7 (fun K => vop (binI .gtr v6 (.int .i64 4096)) s7 K) fun v8 s9 =>
vop (pickV v4 (.bool true) v8) s9 fun v10 s11 =>
condH v10 (
K (.tuple #[(.pointer none), (.int .i64 2)]) s11) (
nop (some (.map [] 0, fun i => .map (some i))) s11 fun v12 s13 =>
vop (aggOf (buildL [(unrle [(1, (.pointer none))]), (unrle [(1, (.int .i64 0))]), (unrle [(1, (.int .i64 0))]), (unrle [(1, (.int .i64 0)), (1024, (.int .u8 0)), (1, (.bool false)), (2, (.pointer none))]), (unrle [(1, (.map none))])] [(0, a0), (1, a1), (4, v12)])) s13 fun v14 s15 =>
nop (boxN v14) s15 fun v16 s17 =>
vop (nilV v16) s17 fun v18 s19 =>
vop (faddr 3 v18) s19 fun v20 s21 =>
vop (nilV v16) s21 fun v22 s23 =>
vop (faddr 3 v22) s23 fun v24 s25 =>
vop (faddr 1026 v24) s25 fun v26 s27 =>
eop (storeV 1 v26 v20 s27) fun _ s29 =>
vop (nilV v16) s29 fun v30 s31 =>
vop (faddr 3 v30) s31 fun v32 s33 =>
vop (nilV v16) s33 fun v34 s35 =>
vop (faddr 3 v34) s35 fun v36 s37 =>
vop (faddr 1027 v36) s37 fun v38 s39 =>
eop (storeV 1 v38 v32 s39) fun _ s41 =>
K (.tuple #[v16, (.int .i64 0)]) s41))
theorem e47 (K : Value → Store → Prop) (a0 a1 : Value) (s : Store) : bodyT Try.prog Try.f47 [a0, a1] s K = p47 K a0 a1 s := by kernel_rfl
theorem d47 {K : Value → Store → Prop} {a0 a1 : Value} {s : Store} (h : p47 K a0 a1 s) : Does Try.prog 47 [a0, a1] s K := does_of_print Try.func47 (by kernel_rfl) ((e47 K a0 a1 s).symm ▸ h)
/-- (*undercroft/disk.Disk).Claim -/
def p48 (K : Value → Store → Prop) (a0 : Value) (s : Store) : Prop :=
Does Try.prog 54 [a0] s fun v0 s1 =>
vop (binI .neq v0 (.int .i64 0)) s1 fun v2 s3 =>
condH v2 (
K (.int .i64 0) s3) (
vop (nilV a0) s3 fun v4 s5 =>
vop (faddr 9 v4) s5 fun v6 s7 =>
vop (loadV false 1 v6 s7.get) s7 fun v8 s9 =>
vop (binI .add v8 (.int .i64 1)) s9 fun v10 s11 =>
vop (nilV a0) s11 fun v12 s13 =>
vop (faddr 9 v12) s13 fun v14 s15 =>
eop (storeV 1 v14 v10 s15) fun _ s17 =>
vop (nilV a0) s17 fun v18 s19 =>
vop (faddr 9 v18) s19 fun v20 s21 =>
vop (loadV false 1 v20 s21.get) s21 fun v22 s23 =>
vop (nilV a0) s23 fun v24 s25 =>
vop (faddr 10 v24) s25 fun v26 s27 =>
eop (storeV 1 v26 v22 s27) fun _ s29 =>
vop (nilV a0) s29 fun v30 s31 =>
vop (faddr 10 v30) s31 fun v32 s33 =>
vop (loadV false 1 v32 s33.get) s33 fun v34 s35 =>
K v34 s35)
theorem e48 (K : Value → Store → Prop) (a0 : Value) (s : Store) : bodyT Try.prog Try.f48 [a0] s K = p48 K a0 s := by kernel_rfl
theorem d48 {K : Value → Store → Prop} {a0 : Value} {s : Store} (h : p48 K a0 s) : Does Try.prog 48 [a0] s K := does_of_print Try.func48 (by kernel_rfl) ((e48 K a0 s).symm ▸ h)
def p49_1 (v46 : Value) (s43 : Store) (s47 : Store) (v0 : Value) (a1 : Value) (a0 : Value) (K : Value → Store → Prop) : Prop :=
vop (loadV false 1 v46 s43.get) s47 fun v48 _ =>
vop (loadV true 1024 v0 s43.get) s47 fun v49 _ =>
eop (updH (.int .i64) v48 a1 v49 s47) fun _ s51 =>
vop (nilV a0) s51 fun v52 s53 =>
vop (faddr 4 v52) s53 fun v54 s55 =>
vop (loadV false 1 v54 s51.get) s55 fun v56 _ =>
vop (loadV true 1024 v0 s51.get) s55 fun v57 _ =>
vop (aggOf (buildL [(unrle [(1, (.int .u8 0))]), (unrle [(1, (.int .i64 0))]), (unrle [(1024, (.int .u8 0))])] [(0, (.int .u8 1)), (1, a1), (2, v57)])) s55 fun v58 s59 =>
nop (sliceOf 1 (buildL (List.replicate 1 (unrle [(1, (.int .u8 0)), (1, (.int .i64 0)), (1024, (.int .u8 0))])) [(0, v58)])) s59 fun v60 s61 =>
eop (appendV 1026 1040 v56 v60 s61) fun v62 s63 =>
vop (nilV a0) s63 fun v64 s65 =>
vop (faddr 4 v64) s65 fun v66 s67 =>
eop (storeV 1 v66 v62 s67) fun _ s69 =>
K (.int .i64 0) s69
def p49_2 (v24 : Value) (K : Value → Store → Prop) (s25 : Store) (a0 : Value) (v0 : Value) (a1 : Value) : Prop :=
condH v24 (
K (.int .i64 3) s25) (
vop (nilV a0) s25 fun v26 s27 =>
vop (faddr 3 v26) s27 fun v28 s29 =>
vop (loadV false 1 v28 s25.get) s29 fun v30 _ =>
vop (loadV true 1024 v0 s25.get) s29 fun v31 _ =>
vop (aggOf (buildL [(unrle [(1, (.int .i64 0))]), (unrle [(1024, (.int .u8 0))])] [(0, a1), (1, v31)])) s29 fun v32 s33 =>
nop (sliceOf 1 (buildL (List.replicate 1 (unrle [(1, (.int .i64 0)), (1024, (.int .u8 0))])) [(0, v32)])) s33 fun v34 s35 =>
eop (appendV 1025 1032 v30 v34 s35) fun v36 s37 =>
vop (nilV a0) s37 fun v38 s39 =>
vop (faddr 3 v38) s39 fun v40 s41 =>
eop (storeV 1 v40 v36 s41) fun _ s43 =>
vop (nilV a0) s43 fun v44 s45 =>
vop (faddr 2 v44) s45 fun v46 s47 =>
p49_1 v46 s43 s47 v0 a1 a0 K)
def p49_3 (v4 : Value) (K : Value → Store → Prop) (v2 : Value) (s5 : Store) (a1 : Value) (a0 : Value) (v0 : Value) : Prop :=
condH v4 (
K v2 s5) (
vop (binI .lss a1 (.int .i64 0)) s5 fun v6 s7 =>
gop v6 false s7 (fun K => K a1 s7) fun v8 s9 =>
gop v6 false s9 (fun K => K a0 s9) fun v10 s11 =>
gop v6 false s11 (fun K => vop (nilV v10) s11 K) fun v12 s13 =>
gop v6 false s13 (fun K => vop (faddr 0 v12) s13 K) fun v14 s15 =>
gop v6 false s15 (fun K => vop (loadV false 1 v14 s15.get) s15 K) fun v16 s17 =>
gop v6 false s17 (fun K => vop (binI .geq v8 v16) s17 K) fun v18 s19 =>
vop (pickV v6 (.bool true) v18) s19 fun v20 s21 =>
condH v20 (
K (.int .i64 2) s21) (
Does Try.prog 67 [a0] s21 fun v22 s23 =>
vop (unV .not v22) s23 fun v24 s25 =>
p49_2 v24 K s25 a0 v0 a1))
/-- (*undercroft/disk.Disk).Write -/
def p49 (K : Value → Store → Prop) (a0 a1 a2 : Value) (s : Store) : Prop :=
nop (boxN a2) s fun v0 s1 =>
Does Try.prog 54 [a0] s1 fun v2 s3 =>
vop (binI .neq v2 (.int .i64 0)) s3 fun v4 s5 =>
p49_3 v4 K v2 s5 a1 a0 v0
theorem e49 (K : Value → Store → Prop) (a0 a1 a2 : Value) (s : Store) : bodyT Try.prog Try.f49 [a0, a1, a2] s K = p49 K a0 a1 a2 s := by kernel_rfl
theorem d49 {K : Value → Store → Prop} {a0 a1 a2 : Value} {s : Store} (h : p49 K a0 a1 a2 s) : Does Try.prog 49 [a0, a1, a2] s K := does_of_print Try.func49 (by kernel_rfl) ((e49 K a0 a1 a2 s).symm ▸ h)
/-- (*undercroft/disk.Disk).Barrier -/
def p50 (K : Value → Store → Prop) (a0 : Value) (s : Store) : Prop :=
Does Try.prog 54 [a0] s fun v0 s1 =>
vop (binI .neq v0 (.int .i64 0)) s1 fun v2 s3 =>
condH v2 (
K v0 s3) (
Does Try.prog 67 [a0] s3 fun v4 s5 =>
vop (unV .not v4) s5 fun v6 s7 =>
condH v6 (
K (.int .i64 3) s7) (
vop (nilV a0) s7 fun v8 s9 =>
vop (faddr 3 v8) s9 fun v10 s11 =>
vop (loadV false 1 v10 s11.get) s11 fun v12 s13 =>
vop (lenSl v12) s13 fun v14 s15 =>
lop 1 (fun (n16 : Value → Store → Prop) x17 s18 =>
vop (binI .lss x17 v14) s18 fun v19 s20 =>
condH v19 (
vop (iaddrS 1025 v12 x17) s20 fun v21 s22 =>
vop (loadV true 1025 v21 s22.get) s22 fun v23 s24 =>
nop (some (.cells (unrle [(1, (.int .i64 0)), (1024, (.int .u8 0))]) none, ptrTo)) s24 fun v25 s26 =>
eop (storeV 1025 v25 v23 s26) fun _ s28 =>
vop (loadV true 1025 v25 s28.get) s28 fun v29 s30 =>
Does Try.prog 68 [a0, v29] s30 fun _ s32 =>
vop (binI .add x17 (.int .i64 1)) s32 fun v33 s34 =>
n16 v33 s34) (
vop (nilV a0) s20 fun v35 s36 =>
vop (faddr 3 v35) s36 fun v37 s38 =>
eop (storeV 1 v37 (.slice none 0 0) s38) fun _ s40 =>
vop (nilV a0) s40 fun v41 s42 =>
vop (faddr 2 v41) s42 fun v43 s44 =>
vop (loadV false 1 v43 s44.get) s44 fun v45 s46 =>
eop (clearV v45 s46) fun _ s48 =>
vop (nilV a0) s48 fun v49 s50 =>
vop (faddr 4 v49) s50 fun v51 s52 =>
vop (loadV false 1 v51 s52.get) s52 fun v53 s54 =>
vop (aggOf (buildL [(unrle [(1, (.int .u8 0))]), (unrle [(1, (.int .i64 0))]), (unrle [(1024, (.int .u8 0))])] [(0, (.int .u8 2))])) s54 fun v55 s56 =>
nop (sliceOf 1 (buildL (List.replicate 1 (unrle [(1, (.int .u8 0)), (1, (.int .i64 0)), (1024, (.int .u8 0))])) [(0, v55)])) s56 fun v57 s58 =>
eop (appendV 1026 1040 v53 v57 s58) fun v59 s60 =>
vop (nilV a0) s60 fun v61 s62 =>
vop (faddr 4 v61) s62 fun v63 s64 =>
eop (storeV 1 v63 v59 s64) fun _ s66 =>
K (.int .i64 0) s66)) (.int .i64 0) s15))
theorem e50 (K : Value → Store → Prop) (a0 : Value) (s : Store) : bodyT Try.prog Try.f50 [a0] s K = p50 K a0 s := by kernel_rfl
theorem d50 {K : Value → Store → Prop} {a0 : Value} {s : Store} (h : p50 K a0 s) : Does Try.prog 50 [a0] s K := does_of_print Try.func50 (by kernel_rfl) ((e50 K a0 s).symm ▸ h)
/-- undercroft/undercroftkit.SameHelds -/
def p51 (K : Value → Store → Prop) (a0 a1 : Value) (s : Store) : Prop :=
vop (lenSl a0) s fun v0 s1 =>
vop (lenSl a1) s1 fun v2 s3 =>
vop (binI .neq v0 v2) s3 fun v4 s5 =>
condH v4 (
K (.bool false) s5) (
lop 1 (fun (n6 : Value → Store → Prop) x7 s8 =>
vop (lenSl a0) s8 fun v9 s10 =>
vop (binI .lss x7 v9) s10 fun v11 s12 =>
condH v11 (
vop (iaddrS 1025 a0 x7) s12 fun v13 s14 =>
vop (loadV true 1025 v13 s12.get) s14 fun v15 _ =>
vop (iaddrS 1025 a1 x7) s14 fun v16 s17 =>
vop (loadV true 1025 v16 s12.get) s17 fun v18 _ =>
vop (eqA (.fields [(0, 1, (.one (.int .i64))), (1, 1024, (.ints .u8 1024))]) true v15 v18) s17 fun v19 s20 =>
condH v19 (
K (.bool false) s20) (
vop (binI .add x7 (.int .i64 1)) s20 fun v21 s22 =>
n6 v21 s22)) (
K (.bool true) s12)) (.int .i64 0) s5)
theorem e51 (K : Value → Store → Prop) (a0 a1 : Value) (s : Store) : bodyT Try.prog Try.f51 [a0, a1] s K = p51 K a0 a1 s := by kernel_rfl
theorem d51 {K : Value → Store → Prop} {a0 a1 : Value} {s : Store} (h : p51 K a0 a1 s) : Does Try.prog 51 [a0, a1] s K := does_of_print Try.func51 (by kernel_rfl) ((e51 K a0 a1 s).symm ▸ h)
/-- (*undercroft/disk.Disk).check -/
def p54 (K : Value → Store → Prop) (a0 : Value) (s : Store) : Prop :=
Does Try.prog 41 [a0] s fun v0 s1 =>
vop (unV .not v0) s1 fun v2 s3 =>
condH v2 (
K (.int .i64 1) s3) (
vop (nilV a0) s3 fun v4 s5 =>
vop (faddr 6 v4) s5 fun v6 s7 =>
vop (loadV false 1 v6 s7.get) s7 fun v8 s9 =>
condH v8 (
K (.int .i64 3) s9) (
K (.int .i64 0) s9))
theorem e54 (K : Value → Store → Prop) (a0 : Value) (s : Store) : bodyT Try.prog Try.f54 [a0] s K = p54 K a0 s := by kernel_rfl
theorem d54 {K : Value → Store → Prop} {a0 : Value} {s : Store} (h : p54 K a0 s) : Does Try.prog 54 [a0] s K := does_of_print Try.func54 (by kernel_rfl) ((e54 K a0 s).symm ▸ h)
/-- (*undercroft/disk.Disk).Claimed -/
def p55 (K : Value → Store → Prop) (a0 a1 : Value) (s : Store) : Prop :=
Does Try.prog 54 [a0] s fun v0 s1 =>
vop (binI .eql v0 (.int .i64 0)) s1 fun v2 s3 =>
gop v2 true s3 (fun K => K a1 s3) fun v4 s5 =>
gop v2 true s5 (fun K => vop (binI .gtr v4 (.int .i64 0)) s5 K) fun v6 s7 =>
vop (pickV v2 v6 (.bool false)) s7 fun v8 s9 =>
gop v8 true s9 (fun K => K a0 s9) fun v10 s11 =>
gop v8 true s11 (fun K => vop (nilV v10) s11 K) fun v12 s13 =>
gop v8 true s13 (fun K => vop (faddr 10 v12) s13 K) fun v14 s15 =>
gop v8 true s15 (fun K => vop (loadV false 1 v14 s15.get) s15 K) fun v16 s17 =>
gop v8 true s17 (fun K => K a1 s17) fun v18 s19 =>
gop v8 true s19 (fun K => vop (binI .eql v16 v18) s19 K) fun v20 s21 =>
vop (pickV v8 v20 (.bool false)) s21 fun v22 s23 =>
K v22 s23
theorem e55 (K : Value → Store → Prop) (a0 a1 : Value) (s : Store) : bodyT Try.prog Try.f55 [a0, a1] s K = p55 K a0 a1 s := by kernel_rfl
theorem d55 {K : Value → Store → Prop} {a0 a1 : Value} {s : Store} (h : p55 K a0 a1 s) : Does Try.prog 55 [a0, a1] s K := does_of_print Try.func55 (by kernel_rfl) ((e55 K a0 a1 s).symm ▸ h)
def p57_1 (v61 : Value) (s62 : Store) (v0 : Value) (K : Value → Store → Prop) (v55 : Value) (v57 : Value) (a1 : Value) (a0 : Value) : Prop :=
condH v61 (
vop (aggOf (buildL (List.replicate 1024 (unrle [(1, (.int .u8 0))])) [])) s62 fun v63 s64 =>
eop (storeV 1024 v0 v63 s64) fun _ s66 =>
vop (loadV true 1024 v0 s66.get) s66 fun v67 _ =>
K (.tuple #[v67, v55]) s66) (
vop (loadV true 1024 v57 s62.get) s62 fun v68 s69 =>
vop (aggOf (buildL [(unrle [(1, (.int .i64 0))]), (unrle [(1024, (.int .u8 0))]), (unrle [(1, (.bool false))]), (unrle [(1, (.pointer none))]), (unrle [(1, (.pointer none))])] [(0, a1), (1, v68)])) s69 fun v70 s71 =>
nop (boxN v70) s71 fun v72 s73 =>
vop (nilV a0) s73 fun v74 s75 =>
vop (faddr 1031 v74) s75 fun v76 s77 =>
vop (loadV false 1 v76 s77.get) s77 fun v78 s79 =>
eop (updH (.int .i64) v78 a1 v72 s79) fun _ s81 =>
Does Try.prog 62 [a0, v72] s81 fun _ s83 =>
vop (loadV true 1024 v57 s83.get) s83 fun v84 s85 =>
eop (storeV 1024 v0 v84 s85) fun _ s87 =>
vop (loadV true 1024 v0 s87.get) s87 fun v88 _ =>
K (.tuple #[v88, (.int .i64 0)]) s87)
def p57_2 (v38 : Value) (s39 : Store) (v0 : Value) (K : Value → Store → Prop) (a0 : Value) (a1 : Value) : Prop :=
condH v38 (
vop (aggOf (buildL (List.replicate 1024 (unrle [(1, (.int .u8 0))])) [])) s39 fun v40 s41 =>
eop (storeV 1024 v0 v40 s41) fun _ s43 =>
vop (loadV true 1024 v0 s43.get) s43 fun v44 _ =>
K (.tuple #[v44, (.int .i64 160)]) s43) (
vop (nilV a0) s39 fun v45 s46 =>
vop (faddr 0 v45) s46 fun v47 s48 =>
vop (loadV false 1 v47 s48.get) s48 fun v49 s50 =>
Does Try.prog 35 [v49, a1] s50 fun v51 s52 =>
vop (extractV v51 0) s52 fun v53 s54 =>
vop (extractV v51 1) s54 fun v55 s56 =>
nop (some (.cells (unrle [(1024, (.int .u8 0))]) none, ptrTo)) s56 fun v57 s58 =>
eop (storeV 1024 v57 v53 s58) fun _ s60 =>
vop (binI .neq v55 (.int .i64 0)) s60 fun v61 s62 =>
p57_1 v61 s62 v0 K v55 v57 a1 a0)
def p57_3 (v17 : Value) (s18 : Store) (a0 : Value) (v0 : Value) (K : Value → Store → Prop) (a1 : Value) : Prop :=
vop (extractV v17 0) s18 fun v19 s20 =>
vop (extractV v17 1) s20 fun v21 s22 =>
condH v21 (
Does Try.prog 60 [v19] s22 fun _ s24 =>
Does Try.prog 62 [a0, v19] s24 fun _ s26 =>
vop (nilV v19) s26 fun v27 s28 =>
vop (faddr 1 v27) s28 fun v29 s30 =>
vop (loadV true 1024 v29 s30.get) s30 fun v31 s32 =>
eop (storeV 1024 v0 v31 s32) fun _ s34 =>
vop (loadV true 1024 v0 s34.get) s34 fun v35 _ =>
K (.tuple #[v35, (.int .i64 0)]) s34) (
Does Try.prog 61 [a0] s22 fun v36 s37 =>
vop (unV .not v36) s37 fun v38 s39 =>
p57_2 v38 s39 v0 K a0 a1)
/-- (*undercroft/cache.Cache).Read -/
def p57 (K : Value → Store → Prop) (a0 a1 : Value) (s : Store) : Prop :=
nop (some (.cells (unrle [(1024, (.int .u8 0))]) none, ptrTo)) s fun v0 s1 =>
Does Try.prog 59 [a0, a1] s1 fun v2 s3 =>
vop (binI .neq v2 (.int .i64 0)) s3 fun v4 s5 =>
condH v4 (
vop (aggOf (buildL (List.replicate 1024 (unrle [(1, (.int .u8 0))])) [])) s5 fun v6 s7 =>
eop (storeV 1024 v0 v6 s7) fun _ s9 =>
vop (loadV true 1024 v0 s9.get) s9 fun v10 _ =>
K (.tuple #[v10, v2]) s9) (
vop (nilV a0) s5 fun v11 s12 =>
vop (faddr 1031 v11) s12 fun v13 s14 =>
vop (loadV false 1 v13 s14.get) s14 fun v15 s16 =>
vop (lookupH (.int .i64) (.pointer none) v15 a1 true s16.get) s16 fun v17 s18 =>
p57_3 v17 s18 a0 v0 K a1)
theorem e57 (K : Value → Store → Prop) (a0 a1 : Value) (s : Store) : bodyT Try.prog Try.f57 [a0, a1] s K = p57 K a0 a1 s := by kernel_rfl
theorem d57 {K : Value → Store → Prop} {a0 a1 : Value} {s : Store} (h : p57 K a0 a1 s) : Does Try.prog 57 [a0, a1] s K := does_of_print Try.func57 (by kernel_rfl) ((e57 K a0 a1 s).symm ▸ h)
/-- (*undercroft/cache.Cache).Flush -/
def p58 (K : Value → Store → Prop) (a0 a1 : Value) (s : Store) : Prop :=
Does Try.prog 59 [a0, a1] s fun v0 s1 =>
vop (binI .neq v0 (.int .i64 0)) s1 fun v2 s3 =>
condH v2 (
K v0 s3) (
vop (nilV a0) s3 fun v4 s5 =>
vop (faddr 1031 v4) s5 fun v6 s7 =>
vop (loadV false 1 v6 s7.get) s7 fun v8 s9 =>
vop (lookupH (.int .i64) (.pointer none) v8 a1 true s9.get) s9 fun v10 s11 =>
vop (extractV v10 0) s11 fun v12 s13 =>
vop (extractV v10 1) s13 fun v14 s15 =>
vop (unV .not v14) s15 fun v16 s17 =>
gop v16 false s17 (fun K => K v12 s17) fun v18 s19 =>
gop v16 false s19 (fun K => vop (nilV v18) s19 K) fun v20 s21 =>
gop v16 false s21 (fun K => vop (faddr 1025 v20) s21 K) fun v22 s23 =>
gop v16 false s23 (fun K => vop (loadV false 1 v22 s23.get) s23 K) fun v24 s25 =>
gop v16 false s25 (fun K => vop (unV .not v24) s25 K) fun v26 s27 =>
vop (pickV v16 (.bool true) v26) s27 fun v28 s29 =>
condH v28 (
K (.int .i64 0) s29) (
vop (nilV a0) s29 fun v30 s31 =>
vop (faddr 0 v30) s31 fun v32 s33 =>
vop (loadV false 1 v32 s29.get) s33 fun v34 _ =>
vop (nilV v12) s33 fun v35 s36 =>
vop (faddr 1 v35) s36 fun v37 s38 =>
vop (loadV true 1024 v37 s29.get) s38 fun v39 _ =>
Does Try.prog 49 [v34, a1, v39] s38 fun v40 s41 =>
vop (binI .neq v40 (.int .i64 0)) s41 fun v42 s43 =>
condH v42 (
K v40 s43) (
vop (nilV v12) s43 fun v44 s45 =>
vop (faddr 1025 v44) s45 fun v46 s47 =>
eop (storeV 1 v46 (.bool false) s47) fun _ s49 =>
vop (nilV a0) s49 fun v50 s51 =>
vop (faddr 2 v50) s51 fun v52 s53 =>
vop (loadV false 1 v52 s53.get) s53 fun v54 s55 =>
vop (binI .sub v54 (.int .i64 1)) s55 fun v56 s57 =>
vop (nilV a0) s57 fun v58 s59 =>
vop (faddr 2 v58) s59 fun v60 s61 =>
eop (storeV 1 v60 v56 s61) fun _ s63 =>
K (.int .i64 0) s63)))
theorem e58 (K : Value → Store → Prop) (a0 a1 : Value) (s : Store) : bodyT Try.prog Try.f58 [a0, a1] s K = p58 K a0 a1 s := by kernel_rfl
theorem d58 {K : Value → Store → Prop} {a0 a1 : Value} {s : Store} (h : p58 K a0 a1 s) : Does Try.prog 58 [a0, a1] s K := does_of_print Try.func58 (by kernel_rfl) ((e58 K a0 a1 s).symm ▸ h)
/-- (*undercroft/cache.Cache).check -/
def p59 (K : Value → Store → Prop) (a0 a1 : Value) (s : Store) : Prop :=
vop (eqPn false a0 (.pointer none)) s fun v0 s1 =>
gop v0 false s1 (fun K => K a0 s1) fun v2 s3 =>
gop v0 false s3 (fun K => vop (nilV v2) s3 K) fun v4 s5 =>
gop v0 false s5 (fun K => vop (faddr 0 v4) s5 K) fun v6 s7 =>
gop v0 false s7 (fun K => vop (loadV false 1 v6 s7.get) s7 K) fun v8 s9 =>
gop v0 false s9 (fun K => vop (eqPn false v8 (.pointer none)) s9 K) fun v10 s11 =>
vop (pickV v0 (.bool true) v10) s11 fun v12 s13 =>
condH v12 (
K (.int .i64 1) s13) (
vop (nilV a0) s13 fun v14 s15 =>
vop (faddr 0 v14) s15 fun v16 s17 =>
vop (loadV false 1 v16 s17.get) s17 fun v18 s19 =>
Does Try.prog 74 [v18] s19 fun v20 s21 =>
condH v20 (
K (.int .i64 3) s21) (
vop (binI .lss a1 (.int .i64 0)) s21 fun v22 s23 =>
gop v22 false s23 (fun K => K a1 s23) fun v24 s25 =>
gop v22 false s25 (fun K => K a0 s25) fun v26 s27 =>
gop v22 false s27 (fun K => vop (nilV v26) s27 K) fun v28 s29 =>
gop v22 false s29 (fun K => vop (faddr 0 v28) s29 K) fun v30 s31 =>
gop v22 false s31 (fun K => vop (loadV false 1 v30 s31.get) s31 K) fun v32 s33 =>
gop v22 false s33 (fun K => Does Try.prog 66 [v32] s33 K) fun v34 s35 =>
gop v22 false s35 (fun K => vop (binI .geq v24 v34) s35 K) fun v36 s37 =>
vop (pickV v22 (.bool true) v36) s37 fun v38 s39 =>
condH v38 (
K (.int .i64 2) s39) (
K (.int .i64 0) s39)))
theorem e59 (K : Value → Store → Prop) (a0 a1 : Value) (s : Store) : bodyT Try.prog Try.f59 [a0, a1] s K = p59 K a0 a1 s := by kernel_rfl
theorem d59 {K : Value → Store → Prop} {a0 a1 : Value} {s : Store} (h : p59 K a0 a1 s) : Does Try.prog 59 [a0, a1] s K := does_of_print Try.func59 (by kernel_rfl) ((e59 K a0 a1 s).symm ▸ h)
/-- (*undercroft/cache.link).leave -/
def p60 (K : Value → Store → Prop) (a0 : Value) (s : Store) : Prop :=
vop (nilV a0) s fun v0 s1 =>
vop (faddr 1026 v0) s1 fun v2 s3 =>
vop (loadV false 1 v2 s.get) s3 fun v4 _ =>
vop (nilV a0) s3 fun v5 s6 =>
vop (faddr 1027 v5) s6 fun v7 s8 =>
vop (loadV false 1 v7 s.get) s8 fun v9 _ =>
vop (nilV v4) s8 fun v10 s11 =>
vop (faddr 1027 v10) s11 fun v12 s13 =>
eop (storeV 1 v12 v9 s13) fun _ s15 =>
vop (nilV a0) s15 fun v16 s17 =>
vop (faddr 1027 v16) s17 fun v18 s19 =>
vop (loadV false 1 v18 s15.get) s19 fun v20 _ =>
vop (nilV a0) s19 fun v21 s22 =>
vop (faddr 1026 v21) s22 fun v23 s24 =>
vop (loadV false 1 v23 s15.get) s24 fun v25 _ =>
vop (nilV v20) s24 fun v26 s27 =>
vop (faddr 1026 v26) s27 fun v28 s29 =>
eop (storeV 1 v28 v25 s29) fun _ s31 =>
K (.tuple #[]) s31
theorem e60 (K : Value → Store → Prop) (a0 : Value) (s : Store) : bodyT Try.prog Try.f60 [a0] s K = p60 K a0 s := by kernel_rfl
theorem d60 {K : Value → Store → Prop} {a0 : Value} {s : Store} (h : p60 K a0 s) : Does Try.prog 60 [a0] s K := does_of_print Try.func60 (by kernel_rfl) ((e60 K a0 s).symm ▸ h)
/-- (*undercroft/cache.Cache).room -/
def p61 (K : Value → Store → Prop) (a0 : Value) (s : Store) : Prop :=
vop (nilV a0) s fun v0 s1 =>
vop (faddr 2 v0) s1 fun v2 s3 =>
vop (loadV false 1 v2 s.get) s3 fun v4 _ =>
vop (nilV a0) s3 fun v5 s6 =>
vop (faddr 1 v5) s6 fun v7 s8 =>
vop (loadV false 1 v7 s.get) s8 fun v9 _ =>
vop (binI .geq v4 v9) s8 fun v10 s11 =>
condH v10 (
K (.bool false) s11) (
vop (nilV a0) s11 fun v12 s13 =>
vop (faddr 1031 v12) s13 fun v14 s15 =>
vop (loadV false 1 v14 s11.get) s15 fun v16 _ =>
vop (lenMap v16 s11.get) s15 fun v17 _ =>
vop (nilV a0) s15 fun v18 s19 =>
vop (faddr 1 v18) s19 fun v20 s21 =>
vop (loadV false 1 v20 s11.get) s21 fun v22 _ =>
vop (binI .lss v17 v22) s21 fun v23 s24 =>
condH v23 (
K (.bool true) s24) (
vop (nilV a0) s24 fun v25 s26 =>
vop (faddr 3 v25) s26 fun v27 s28 =>
vop (faddr 1027 v27) s28 fun v29 s30 =>
vop (loadV false 1 v29 s30.get) s30 fun v31 s32 =>
lop 1 (fun (n33 : Value → Store → Prop) x34 s35 =>
vop (nilV x34) s35 fun v36 s37 =>
vop (faddr 1025 v36) s37 fun v38 s39 =>
vop (loadV false 1 v38 s39.get) s39 fun v40 s41 =>
condH v40 (
vop (nilV x34) s41 fun v42 s43 =>
vop (faddr 1027 v42) s43 fun v44 s45 =>
vop (loadV false 1 v44 s45.get) s45 fun v46 s47 =>
n33 v46 s47) (
Does Try.prog 60 [x34] s41 fun _ s49 =>
vop (nilV a0) s49 fun v50 s51 =>
vop (faddr 1031 v50) s51 fun v52 s53 =>
vop (loadV false 1 v52 s49.get) s53 fun v54 _ =>
vop (nilV x34) s53 fun v55 s56 =>
vop (faddr 0 v55) s56 fun v57 s58 =>
vop (loadV false 1 v57 s49.get) s58 fun v59 _ =>
eop (delH (.int .i64) v54 v59 s58) fun _ s61 =>
K (.bool true) s61)) v31 s32))
theorem e61 (K : Value → Store → Prop) (a0 : Value) (s : Store) : bodyT Try.prog Try.f61 [a0] s K = p61 K a0 s := by kernel_rfl
theorem d61 {K : Value → Store → Prop} {a0 : Value} {s : Store} (h : p61 K a0 s) : Does Try.prog 61 [a0] s K := does_of_print Try.func61 (by kernel_rfl) ((e61 K a0 s).symm ▸ h)
/-- (*undercroft/cache.Cache).last -/
def p62 (K : Value → Store → Prop) (a0 a1 : Value) (s : Store) : Prop :=
vop (nilV a0) s fun v0 s1 =>
vop (faddr 3 v0) s1 fun v2 s3 =>
vop (faddr 1026 v2) s3 fun v4 s5 =>
vop (loadV false 1 v4 s5.get) s5 fun v6 s7 =>
vop (nilV a1) s7 fun v8 s9 =>
vop (faddr 1026 v8) s9 fun v10 s11 =>
eop (storeV 1 v10 v6 s11) fun _ s13 =>
vop (nilV a0) s13 fun v14 s15 =>
vop (faddr 3 v14) s15 fun v16 s17 =>
vop (nilV a1) s17 fun v18 s19 =>
vop (faddr 1027 v18) s19 fun v20 s21 =>
eop (storeV 1 v20 v16 s21) fun _ s23 =>
vop (nilV a1) s23 fun v24 s25 =>
vop (faddr 1026 v24) s25 fun v26 s27 =>
vop (loadV false 1 v26 s27.get) s27 fun v28 s29 =>
vop (nilV v28) s29 fun v30 s31 =>
vop (faddr 1027 v30) s31 fun v32 s33 =>
eop (storeV 1 v32 a1 s33) fun _ s35 =>
vop (nilV a0) s35 fun v36 s37 =>
vop (faddr 3 v36) s37 fun v38 s39 =>
vop (faddr 1026 v38) s39 fun v40 s41 =>
eop (storeV 1 v40 a1 s41) fun _ s43 =>
K (.tuple #[]) s43
theorem e62 (K : Value → Store → Prop) (a0 a1 : Value) (s : Store) : bodyT Try.prog Try.f62 [a0, a1] s K = p62 K a0 a1 s := by kernel_rfl
theorem d62 {K : Value → Store → Prop} {a0 a1 : Value} {s : Store} (h : p62 K a0 a1 s) : Does Try.prog 62 [a0, a1] s K := does_of_print Try.func62 (by kernel_rfl) ((e62 K a0 a1 s).symm ▸ h)
def p63_1 (v65 : Value) (s122 : Store) (v0 : Value) (v2 : Value) (K : Value → Store → Prop) : Prop :=
vop (faddr 8 v65) s122 fun v123 s124 =>
vop (loadV false 1 v123 s124.get) s124 fun v125 s126 =>
vop (faddr 0 v0) s126 fun v127 s128 =>
vop (loadV false 1 v127 s128.get) s128 fun v129 s130 =>
vop (binI .geq v125 v129) s130 fun v131 s132 =>
condH v131 (
vop (aggOf (buildL [(unrle [(3, (.int .i64 0))]), (unrle [(1, (.int .i64 0))]), (unrle [(1, (.int .i64 0))]), (unrle [(1, (.int .i64 0))]), (unrle [(1, (.int .i64 0))]), (unrle [(1, (.int .i64 0))]), (unrle [(1, (.int .i64 0))])] [])) s132 fun v133 s134 =>
eop (storeV 9 v2 v133 s134) fun _ s136 =>
vop (loadV true 9 v2 s136.get) s136 fun v137 _ =>
K (.tuple #[v137, (.int .i64 2)]) s136) (
vop (loadV true 9 v65 s132.get) s132 fun v138 s139 =>
eop (storeV 9 v2 v138 s139) fun _ s141 =>
vop (loadV true 9 v2 s141.get) s141 fun v142 _ =>
K (.tuple #[v142, (.int .i64 0)]) s141)
def p63_2 (v95 : Value) (s96 : Store) (v65 : Value) (v0 : Value) (v2 : Value) (K : Value → Store → Prop) : Prop :=
vop (loadV false 1 v95 s96.get) s96 fun v97 s98 =>
vop (binI .add v97 (.int .i64 8192)) s98 fun v99 s100 =>
vop (binI .sub v99 (.int .i64 1)) s100 fun v101 s102 =>
vop (binI .quo v101 (.int .i64 8192)) s102 fun v103 s104 =>
vop (faddr 7 v65) s104 fun v105 s106 =>
eop (storeV 1 v105 v103 s106) fun _ s108 =>
vop (faddr 6 v65) s108 fun v109 s110 =>
vop (loadV false 1 v109 s110.get) s110 fun v111 s112 =>
vop (faddr 7 v65) s112 fun v113 s114 =>
vop (loadV false 1 v113 s114.get) s114 fun v115 s116 =>
vop (binI .add v111 v115) s116 fun v117 s118 =>
vop (faddr 8 v65) s118 fun v119 s120 =>
eop (storeV 1 v119 v117 s120) fun _ s122 =>
p63_1 v65 s122 v0 v2 K
def p63_3 (v69 : Value) (s70 : Store) (v65 : Value) (v0 : Value) (v2 : Value) (K : Value → Store → Prop) : Prop :=
vop (loadV false 1 v69 s70.get) s70 fun v71 s72 =>
vop (binI .add v71 (.int .i64 16)) s72 fun v73 s74 =>
vop (binI .quo v73 (.int .i64 16)) s74 fun v75 s76 =>
vop (faddr 5 v65) s76 fun v77 s78 =>
eop (storeV 1 v77 v75 s78) fun _ s80 =>
vop (faddr 4 v65) s80 fun v81 s82 =>
vop (loadV false 1 v81 s82.get) s82 fun v83 s84 =>
vop (faddr 5 v65) s84 fun v85 s86 =>
vop (loadV false 1 v85 s86.get) s86 fun v87 s88 =>
vop (binI .add v83 v87) s88 fun v89 s90 =>
vop (faddr 6 v65) s90 fun v91 s92 =>
eop (storeV 1 v91 v89 s92) fun _ s94 =>
vop (faddr 0 v0) s94 fun v95 s96 =>
p63_2 v95 s96 v65 v0 v2 K
def p63_4 (v48 : Value) (s49 : Store) (v2 : Value) (K : Value → Store → Prop) (v0 : Value) : Prop :=
condH v48 (
vop (aggOf (buildL [(unrle [(3, (.int .i64 0))]), (unrle [(1, (.int .i64 0))]), (unrle [(1, (.int .i64 0))]), (unrle [(1, (.int .i64 0))]), (unrle [(1, (.int .i64 0))]), (unrle [(1, (.int .i64 0))]), (unrle [(1, (.int .i64 0))])] [])) s49 fun v50 s51 =>
eop (storeV 9 v2 v50 s51) fun _ s53 =>
vop (loadV true 9 v2 s53.get) s53 fun v54 _ =>
K (.tuple #[v54, (.int .i64 2)]) s53) (
vop (loadV true 3 v0 s49.get) s49 fun v55 s56 =>
vop (faddr 1 v0) s56 fun v57 s58 =>
vop (loadV false 1 v57 s58.get) s58 fun v59 s60 =>
vop (binI .add (.int .i64 1) v59) s60 fun v61 s62 =>
vop (aggOf (buildL [(unrle [(3, (.int .i64 0))]), (unrle [(1, (.int .i64 0))]), (unrle [(1, (.int .i64 0))]), (unrle [(1, (.int .i64 0))]), (unrle [(1, (.int .i64 0))]), (unrle [(1, (.int .i64 0))]), (unrle [(1, (.int .i64 0))])] [(0, v55), (1, (.int .i64 1)), (2, v61)])) s62 fun v63 s64 =>
nop (some (.cells (unrle [(9, (.int .i64 0))]) none, ptrTo)) s64 fun v65 s66 =>
eop (storeV 9 v65 v63 s66) fun _ s68 =>
vop (faddr 2 v0) s68 fun v69 s70 =>
p63_3 v69 s70 v65 v0 v2 K)
def p63_5 (v16 : Value) (v22 : Value) (s23 : Store) (K : Value → Store → Prop) (v0 : Value) (v2 : Value) : Prop :=
vop (pickV v16 (.bool true) v22) s23 fun v24 s25 =>
gop v24 false s25 (fun K => vop (faddr 2 v0) s25 K) fun v26 s27 =>
gop v24 false s27 (fun K => vop (loadV false 1 v26 s27.get) s27 K) fun v28 s29 =>
gop v24 false s29 (fun K => vop (binI .gtr v28 (.int .i64 65535)) s29 K) fun v30 s31 =>
vop (pickV v24 (.bool true) v30) s31 fun v32 s33 =>
gop v32 false s33 (fun K => vop (faddr 0 v0) s33 K) fun v34 s35 =>
gop v32 false s35 (fun K => vop (loadV false 1 v34 s35.get) s35 K) fun v36 s37 =>
gop v32 false s37 (fun K => vop (binI .lss v36 (.int .i64 1)) s37 K) fun v38 s39 =>
vop (pickV v32 (.bool true) v38) s39 fun v40 s41 =>
gop v40 false s41 (fun K => vop (faddr 0 v0) s41 K) fun v42 s43 =>
gop v40 false s43 (fun K => vop (loadV false 1 v42 s43.get) s43 K) fun v44 s45 =>
gop v40 false s45 (fun K => vop (binI .gtr v44 (.int .i64 1048576)) s45 K) fun v46 s47 =>
vop (pickV v40 (.bool true) v46) s47 fun v48 s49 =>
p63_4 v48 s49 v2 K v0
/-- undercroft/shape.Of -/
def p63 (K : Value → Store → Prop) (a0 : Value) (s : Store) : Prop :=
nop (boxN a0) s fun v0 s1 =>
nop (some (.cells (unrle [(9, (.int .i64 0))]) none, ptrTo)) s1 fun v2 s3 =>
vop (faddr 1 v0) s3 fun v4 s5 =>
vop (loadV false 1 v4 s5.get) s5 fun v6 s7 =>
vop (binI .lss v6 (.int .i64 32)) s7 fun v8 s9 =>
gop v8 false s9 (fun K => vop (faddr 1 v0) s9 K) fun v10 s11 =>
gop v8 false s11 (fun K => vop (loadV false 1 v10 s11.get) s11 K) fun v12 s13 =>
gop v8 false s13 (fun K => vop (binI .gtr v12 (.int .i64 256)) s13 K) fun v14 s15 =>
vop (pickV v8 (.bool true) v14) s15 fun v16 s17 =>
gop v16 false s17 (fun K => vop (faddr 2 v0) s17 K) fun v18 s19 =>
gop v16 false s19 (fun K => vop (loadV false 1 v18 s19.get) s19 K) fun v20 s21 =>
gop v16 false s21 (fun K => vop (binI .lss v20 (.int .i64 1)) s21 K) fun v22 s23 =>
p63_5 v16 v22 s23 K v0 v2
theorem e63 (K : Value → Store → Prop) (a0 : Value) (s : Store) : bodyT Try.prog Try.f63 [a0] s K = p63 K a0 s := by kernel_rfl
theorem d63 {K : Value → Store → Prop} {a0 : Value} {s : Store} (h : p63 K a0 s) : Does Try.prog 63 [a0] s K := does_of_print Try.func63 (by kernel_rfl) ((e63 K a0 s).symm ▸ h)
/-- undercroft/slab.inside -/
def p64 (K : Value → Store → Prop) (a0 a1 : Value) (s : Store) : Prop :=
vop (binI .geq a0 (.int .i64 0)) s fun v0 s1 =>
gop v0 true s1 (fun K => K a0 s1) fun v2 s3 =>
gop v0 true s3 (fun K => K a1 s3) fun v4 s5 =>
gop v0 true s5 (fun K => vop (binI .sub (.int .i64 1024) v4) s5 K) fun v6 s7 =>
gop v0 true s7 (fun K => vop (binI .leq v2 v6) s7 K) fun v8 s9 =>
vop (pickV v0 v8 (.bool false)) s9 fun v10 s11 =>
K v10 s11
theorem e64 (K : Value → Store → Prop) (a0 a1 : Value) (s : Store) : bodyT Try.prog Try.f64 [a0, a1] s K = p64 K a0 a1 s := by kernel_rfl
theorem d64 {K : Value → Store → Prop} {a0 a1 : Value} {s : Store} (h : p64 K a0 a1 s) : Does Try.prog 64 [a0, a1] s K := does_of_print Try.func64 (by kernel_rfl) ((e64 K a0 a1 s).symm ▸ h)
/-- undercroft/wal.made -/
def p65 (K : Value → Store → Prop) (a0 : Value) (s : Store) : Prop :=
Does Try.prog 66 [a0] s fun v0 s1 =>
vop (binI .gtr v0 (.int .i64 0)) s1 fun v2 s3 =>
K v2 s3
theorem e65 (K : Value → Store → Prop) (a0 : Value) (s : Store) : bodyT Try.prog Try.f65 [a0] s K = p65 K a0 s := by kernel_rfl
theorem d65 {K : Value → Store → Prop} {a0 : Value} {s : Store} (h : p65 K a0 s) : Does Try.prog 65 [a0] s K := does_of_print Try.func65 (by kernel_rfl) ((e65 K a0 s).symm ▸ h)
/-- (*undercroft/disk.Disk).Len -/
def p66 (K : Value → Store → Prop) (a0 : Value) (s : Store) : Prop :=
Does Try.prog 41 [a0] s fun v0 s1 =>
vop (unV .not v0) s1 fun v2 s3 =>
condH v2 (
K (.int .i64 0) s3) (
vop (nilV a0) s3 fun v4 s5 =>
vop (faddr 0 v4) s5 fun v6 s7 =>
vop (loadV false 1 v6 s7.get) s7 fun v8 s9 =>
K v8 s9)
theorem e66 (K : Value → Store → Prop) (a0 : Value) (s : Store) : bodyT Try.prog Try.f66 [a0] s K = p66 K a0 s := by kernel_rfl
theorem d66 {K : Value → Store → Prop} {a0 : Value} {s : Store} (h : p66 K a0 s) : Does Try.prog 66 [a0] s K := does_of_print Try.func66 (by kernel_rfl) ((e66 K a0 s).symm ▸ h)
/-- (*undercroft/disk.Disk).burn -/
def p67 (K : Value → Store → Prop) (a0 : Value) (s : Store) : Prop :=
vop (nilV a0) s fun v0 s1 =>
vop (faddr 5 v0) s1 fun v2 s3 =>
vop (loadV false 1 v2 s3.get) s3 fun v4 s5 =>
vop (binI .eql v4 (.int .i64 0)) s5 fun v6 s7 =>
condH v6 (
vop (nilV a0) s7 fun v8 s9 =>
vop (faddr 6 v8) s9 fun v10 s11 =>
eop (storeV 1 v10 (.bool true) s11) fun _ s13 =>
K (.bool false) s13) (
jop 0 (fun (k14 : Store → Prop) =>
vop (nilV a0) s7 fun v15 s16 =>
vop (faddr 5 v15) s16 fun v17 s18 =>
vop (loadV false 1 v17 s18.get) s18 fun v19 s20 =>
vop (binI .gtr v19 (.int .i64 0)) s20 fun v21 s22 =>
condH v21 (
vop (nilV a0) s22 fun v23 s24 =>
vop (faddr 5 v23) s24 fun v25 s26 =>
vop (loadV false 1 v25 s26.get) s26 fun v27 s28 =>
vop (binI .sub v27 (.int .i64 1)) s28 fun v29 s30 =>
vop (nilV a0) s30 fun v31 s32 =>
vop (faddr 5 v31) s32 fun v33 s34 =>
eop (storeV 1 v33 v29 s34) fun _ s36 =>
k14 s36) (
k14 s22)) fun s37 =>
vop (nilV a0) s37 fun v38 s39 =>
vop (faddr 7 v38) s39 fun v40 s41 =>
vop (loadV false 1 v40 s41.get) s41 fun v42 s43 =>
vop (binI .add v42 (.int .i64 1)) s43 fun v44 s45 =>
vop (nilV a0) s45 fun v46 s47 =>
vop (faddr 7 v46) s47 fun v48 s49 =>
eop (storeV 1 v48 v44 s49) fun _ s51 =>
K (.bool true) s51)
theorem e67 (K : Value → Store → Prop) (a0 : Value) (s : Store) : bodyT Try.prog Try.f67 [a0] s K = p67 K a0 s := by kernel_rfl
theorem d67 {K : Value → Store → Prop} {a0 : Value} {s : Store} (h : p67 K a0 s) : Does Try.prog 67 [a0] s K := does_of_print Try.func67 (by kernel_rfl) ((e67 K a0 s).symm ▸ h)
/-- (*undercroft/disk.Disk).keep -/
def p68 (K : Value → Store → Prop) (a0 a1 : Value) (s : Store) : Prop :=
nop (boxN a1) s fun v0 s1 =>
vop (faddr 1 v0) s1 fun v2 s3 =>
vop (loadV true 1024 v2 s3.get) s3 fun v4 s5 =>
vop (aggOf (buildL (List.replicate 1024 (unrle [(1, (.int .u8 0))])) [])) s5 fun v6 s7 =>
vop (eqA (.ints .u8 1024) false v4 v6) s7 fun v8 s9 =>
condH v8 (
vop (nilV a0) s9 fun v10 s11 =>
vop (faddr 1 v10) s11 fun v12 s13 =>
vop (loadV false 1 v12 s9.get) s13 fun v14 _ =>
vop (faddr 0 v0) s13 fun v15 s16 =>
vop (loadV false 1 v15 s9.get) s16 fun v17 _ =>
eop (delH (.int .i64) v14 v17 s16) fun _ s19 =>
K (.tuple #[]) s19) (
vop (nilV a0) s9 fun v20 s21 =>
vop (faddr 1 v20) s21 fun v22 s23 =>
vop (loadV false 1 v22 s9.get) s23 fun v24 _ =>
vop (faddr 0 v0) s23 fun v25 s26 =>
vop (loadV false 1 v25 s9.get) s26 fun v27 _ =>
vop (faddr 1 v0) s26 fun v28 s29 =>
vop (loadV true 1024 v28 s9.get) s29 fun v30 _ =>
eop (updH (.int .i64) v24 v27 v30 s29) fun _ s32 =>
K (.tuple #[]) s32)
theorem e68 (K : Value → Store → Prop) (a0 a1 : Value) (s : Store) : bodyT Try.prog Try.f68 [a0, a1] s K = p68 K a0 a1 s := by kernel_rfl
theorem d68 {K : Value → Store → Prop} {a0 a1 : Value} {s : Store} (h : p68 K a0 a1 s) : Does Try.prog 68 [a0, a1] s K := does_of_print Try.func68 (by kernel_rfl) ((e68 K a0 a1 s).symm ▸ h)
/-- (*undercroft/disk.Disk).Stopped -/
def p74 (K : Value → Store → Prop) (a0 : Value) (s : Store) : Prop :=
Does Try.prog 41 [a0] s fun v0 s1 =>
gop v0 true s1 (fun K => K a0 s1) fun v2 s3 =>
gop v0 true s3 (fun K => vop (nilV v2) s3 K) fun v4 s5 =>
gop v0 true s5 (fun K => vop (faddr 6 v4) s5 K) fun v6 s7 =>
gop v0 true s7 (fun K => vop (loadV false 1 v6 s7.get) s7 K) fun v8 s9 =>
vop (pickV v0 v8 (.bool false)) s9 fun v10 s11 =>
K v10 s11
theorem e74 (K : Value → Store → Prop) (a0 : Value) (s : Store) : bodyT Try.prog Try.f74 [a0] s K = p74 K a0 s := by kernel_rfl
theorem d74 {K : Value → Store → Prop} {a0 : Value} {s : Store} (h : p74 K a0 s) : Does Try.prog 74 [a0] s K := does_of_print Try.func74 (by kernel_rfl) ((e74 K a0 s).symm ▸ h)
end Go.Proofs.Ytiaonndafhfkmaa
