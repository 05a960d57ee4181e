/- TopBands: its code in parts, and the two loops of Put (printed by tools/bandsput.py). Conditions: as the parts'. | TopBands: the loop that gathers the changes of one band (printed by tools/bandsgat.py). Conditions: a depth of at most three. | TopBands: the nodes of a level behind the changes of one band; what the gathered changes are. Conditions: none of a program's run. -/
import Derived.Test.YtcgkomafaepjnaaGreatDoorTB14
namespace Go.Proofs.YtcgkomafaepjnaaGreatDoor
open Go.RowKit

/-! ### Ways into a function's code -/
def cdL : Code → Code
  | .seq a _ => a
  | c => c
def cdR : Code → Code
  | .seq _ b => b
  | c => c
def cdB : Code → Code
  | .block _ c => c
  | c => c
def cdOf : Option Code → Code
  | some c => c
  | none => .skip
/-- The body of a loop. -/
def cdLp : Code → Code
  | .loop c => c
  | c => c

set_option maxRecDepth 100000 in
set_option maxHeartbeats 8000000 in
theorem putA (a : Option Addr) (n c p b : Nat) (l : List (ByteArray × ByteArray)) (m : Puts) (w0 w : World) (Q : Exit → Act → World → Prop) {v1 v2 v3 v4 v5 v6 v7 v10 v11 v12 v13 v14 v15 v16 v17 v18 v19 v20 v21 v22 v23 v24 v25 v26 v27 v28 v29 v30 v31 v32 v33 v34 v35 v36 v37 v38 v39 v40 v41 v42 v43 v44 v45 v46 v47 v48 v49 v50 v51 v52 v53 v54 v55 v56 v57 v58 v59 v60 v61 v62 v63 v64 v65 v66 v67 v68 v69 v70 v71 v72 v73 v74 v75 v76 v77 v78 v79 v80 v81 v82 v83 v84 v85 v86 v87 v88 v89 v90 v91 v92 v93 v94 v95 v96 v97 v98 v99 v100 v101 v102 v103 v104 v105 v106 v107 v108 v109 v110 v111 v112 v113 v114 v115 v116 v117 v118 v119 v120 v121 v122 v123 v124 v125 v126 v127 v128 v129 v130 v131 v132 v133 v134 v135 v136 v137 v138 v139 v140 v141 v142 v143 v144 v145 v146 v147 v148 v149 v150 v151 v152 v153 v154 v155 v156 v157 v158 v159 v160 v161 v162 v163 v164 v165 v166 v167 v168 v169 v170 v171 v172 v173 v174 v175 v176 v177 v178 v179 v180 v181 v182 v183 v184 v185 v186 v187 v188 v189 v190 v191 v192 v193 v194 v195 v196 v197 v198 v199 v200 v201 v202 v203 v204 v205 v206 v207 v208 v209 v210 v211 v212 v213 v214 v215 v216 v217 v218 v219 v220 v221 v222 v223 v224 v225 v226 v227 v228 v229 v230 v231 v232 v233 v234 v235 v236 v237 v238 v239 v240 v241 v242 v243 v244 v245 v246 v247 v248 v249 v250 v251 v252 v253 v254 v255 v256 v257 v258 v259 v260 v261 v262 v263 v264 v265 v266 v267 v268 v269 v270 v271 v272 v273 v274 v275 v276 v277 v278 v279 v280 v281 v282 : Value} (hK : Kon w0) (hp : PutsAt w0 a n l) (hB : Below w0.heap.size w0 w) (hb0 : w0.heap.size ≤ b) (ht : TreeAt w p b m) (hm : m.length ≤ 900)
    (hQ : ∀ (u35 u36 u37 u38 u39 u40 u41 u42 u43 u44 u45 u46 u47 u48 u49 u50 u51 u52 u53 u54 u55 u56 u57 u58 u59 u60 u61 u62 u63 u64 u65 u66 u67 u68 u69 u70 u71 u72 u73 u74 : Value) (K : Nat) (W : World), K = min n 8 → TreeAt W p b ((putsOf l K).reverse ++ m) → Touch (· = b) w W → Q (.exit 0) { tmps := #[.slice a n c, v1, v2, v3, v4, v5, v6, v7, .pointer (some ⟨p, 0, none⟩), .int .i64 (K : Int), v10, v11, v12, v13, v14, v15, v16, v17, v18, v19, v20, v21, v22, v23, v24, v25, v26, v27, v28, v29, v30, v31, v32, v33, v34, u35, u36, u37, u38, u39, u40, u41, u42, u43, u44, u45, u46, u47, u48, u49, u50, u51, u52, u53, u54, u55, u56, u57, u58, u59, u60, u61, u62, u63, u64, u65, u66, u67, u68, u69, u70, u71, u72, u73, u74, v75, v76, v77, v78, v79, v80, v81, v82, v83, v84, v85, v86, v87, v88, v89, v90, v91, v92, v93, v94, v95, v96, v97, v98, v99, v100, v101, v102, v103, v104, v105, v106, v107, v108, v109, v110, v111, v112, v113, v114, v115, v116, v117, v118, v119, v120, v121, v122, v123, v124, v125, v126, v127, v128, v129, v130, v131, v132, v133, v134, v135, v136, v137, v138, v139, v140, v141, v142, v143, v144, v145, v146, v147, v148, v149, v150, v151, v152, v153, v154, v155, v156, v157, v158, v159, v160, v161, v162, v163, v164, v165, v166, v167, v168, v169, v170, v171, v172, v173, v174, v175, v176, v177, v178, v179, v180, v181, v182, v183, v184, v185, v186, v187, v188, v189, v190, v191, v192, v193, v194, v195, v196, v197, v198, v199, v200, v201, v202, v203, v204, v205, v206, v207, v208, v209, v210, v211, v212, v213, v214, v215, v216, v217, v218, v219, v220, v221, v222, v223, v224, v225, v226, v227, v228, v229, v230, v231, v232, v233, v234, v235, v236, v237, v238, v239, v240, v241, v242, v243, v244, v245, v246, v247, v248, v249, v250, v251, v252, v253, v254, v255, v256, v257, v258, v259, v260, v261, v262, v263, v264, v265, v266, v267, v268, v269, v270, v271, v272, v273, v274, v275, v276, v277, v278, v279, v280, v281, v282], defers := [] } W) :
    (cdB (cdR (cdL (cdR (cdR (cdR (cdR (cdOf Tryz.f3.body)))))))).wp Tryz.prog Q { tmps := #[.slice a n c, v1, v2, v3, v4, v5, v6, v7, .pointer (some ⟨p, 0, none⟩), .int .i64 0, v10, v11, v12, v13, v14, v15, v16, v17, v18, v19, v20, v21, v22, v23, v24, v25, v26, v27, v28, v29, v30, v31, v32, v33, v34, v35, v36, v37, v38, v39, v40, v41, v42, v43, v44, v45, v46, v47, v48, v49, v50, v51, v52, v53, v54, v55, v56, v57, v58, v59, v60, v61, v62, v63, v64, v65, v66, v67, v68, v69, v70, v71, v72, v73, v74, v75, v76, v77, v78, v79, v80, v81, v82, v83, v84, v85, v86, v87, v88, v89, v90, v91, v92, v93, v94, v95, v96, v97, v98, v99, v100, v101, v102, v103, v104, v105, v106, v107, v108, v109, v110, v111, v112, v113, v114, v115, v116, v117, v118, v119, v120, v121, v122, v123, v124, v125, v126, v127, v128, v129, v130, v131, v132, v133, v134, v135, v136, v137, v138, v139, v140, v141, v142, v143, v144, v145, v146, v147, v148, v149, v150, v151, v152, v153, v154, v155, v156, v157, v158, v159, v160, v161, v162, v163, v164, v165, v166, v167, v168, v169, v170, v171, v172, v173, v174, v175, v176, v177, v178, v179, v180, v181, v182, v183, v184, v185, v186, v187, v188, v189, v190, v191, v192, v193, v194, v195, v196, v197, v198, v199, v200, v201, v202, v203, v204, v205, v206, v207, v208, v209, v210, v211, v212, v213, v214, v215, v216, v217, v218, v219, v220, v221, v222, v223, v224, v225, v226, v227, v228, v229, v230, v231, v232, v233, v234, v235, v236, v237, v238, v239, v240, v241, v242, v243, v244, v245, v246, v247, v248, v249, v250, v251, v252, v253, v254, v255, v256, v257, v258, v259, v260, v261, v262, v263, v264, v265, v266, v267, v268, v269, v270, v271, v272, v273, v274, v275, v276, v277, v278, v279, v280, v281, v282], defers := [] } w := by
  have HK := Lib.hid hK
  have HP := Lib.hid hp
  have HQ := Lib.hid hQ
  have HT0 := Lib.hid ht
  have hl2 := ht.lt
  have s0 := hB.size
  clear hK hp hQ ht
  simp only [cdL, cdR, cdB, cdOf, Tryz.f3]
  go_loopw [9] (fun i W => ∃ k : Nat, k ≤ n ∧ k ≤ 8 ∧ i = .int .i64 (k : Int) ∧ TreeAt W p b ((putsOf l k).reverse ++ m) ∧ Touch (· = b) w W) (fun i _ => n - (intOf i).toNat)
  case atStart => exact ⟨0, Nat.zero_le _, Nat.zero_le _, rfl, HT0.out, Touch.refl _ _⟩
  case round =>
    obtain ⟨k, hk, hk8, rfl, ht, hT⟩ := hrel
    by_cases h1 : k < n
    · have h1' : (k : Int) < (n : Int) := by omega
      by_cases h2 : k < 8
      · have h2' : (k : Int) < 8 := by omega
        have hkl : k < l.length := by rw [HP.out.len]; exact h1
        have swr := hT.size
        have hwr : Below w0.heap.size w0 wr := hB.trans (hT.below (B := w0.heap.size) (by rintro i rfl; exact hb0) s0)
        obtain ⟨g, o, rfl, hg, hc1, hc2⟩ := HP.out.cell k hkl
        have hgb : g ≠ b := by omega
        have hc1 := (hwr.cell (p := ⟨g, o + k * 2, none⟩) hg).trans hc1
        have hc2 := (hwr.cell (p := ⟨g, o + k * 2 + 1, none⟩) hg).trans hc2
        have hsucc := Lib.hid (putsOf_succ hkl)
        obtain ⟨nm, hnm⟩ : ∃ nm, nm = (l[k]).1 := ⟨_, rfl⟩
        obtain ⟨vl, hvl⟩ : ∃ vl, vl = (l[k]).2 := ⟨_, rfl⟩
        rw [← hnm] at hc1
        rw [← hvl] at hc2
        have Hnm := Lib.hid (show putOf l[k] = (keyB nm, (cutB vl).data.toList) by rw [hnm, hvl]; rfl)
        clear hnm hvl
        obtain ⟨q, hq⟩ : ∃ q, q = min nm.size 20 := ⟨_, rfl⟩
        obtain ⟨r, hr⟩ : ∃ r, r = min vl.size 20 := ⟨_, rfl⟩
        have hcn : cutB nm = nm.extract 0 q := by rw [hq]; rfl
        have hcv : cutB vl = vl.extract 0 r := by rw [hr]; rfl
        have hqm : (if (20 : Int) < (nm.size : Int) then (20 : Int) else (nm.size : Int)) = (q : Int) := by split <;> omega
        have hrm : (if (20 : Int) < (vl.size : Int) then (20 : Int) else (vl.size : Int)) = (r : Int) := by split <;> omega
        have hmq : ∀ (W : World) (ts : Array TypeId) (t : TypeId), (Builtin.min_ ts t #[.int .i64 (nm.size : Int), .int .i64 20]).run Tryz.prog W = .ok (.int .i64 (q : Int)) W := fun W ts t => by rw [run_min_int2, hqm]
        have hmr : ∀ (W : World) (ts : Array TypeId) (t : TypeId), (Builtin.min_ ts t #[.int .i64 (vl.size : Int), .int .i64 20]).run Tryz.prog W = .ok (.int .i64 (r : Int)) W := fun W ts t => by rw [run_min_int2, hrm]
        have hq0 : (0 : Int) ≤ (q : Int) := by omega
        have hr0 : (0 : Int) ≤ (r : Int) := by omega
        have hq1 : (q : Int) ≤ (nm.size : Int) := by omega
        have hr1 : (r : Int) ≤ (vl.size : Int) := by omega
        clear hq hr
        have hslq : ∀ W, (Instr.slice 9 (.string nm) none (some (.int .i64 (q : Int))) none).run Tryz.prog W = .ok (.string (nm.extract 0 q)) W := fun W => by go_simp
        have hslr : ∀ W, (Instr.slice 9 (.string vl) none (some (.int .i64 (r : Int))) none).run Tryz.prog W = .ok (.string (vl.extract 0 r)) W := fun W => by go_simp
        have sn := cutB_size nm
        have sv := cutB_size vl
        have kl16 := keyB_length nm
        have hkey : keyB nm = tagOf 1 [(nm.extract 0 q).data.toList] := by unfold keyB; rw [hcn]
        rw [hcn] at sn
        rw [hcv] at sv Hnm
        have htg := Lib.hid (tagged_one 1 (nm.extract 0 q) wr.drew (by decide) (by omega) (HK.out.old hwr.drew))
        rw [← hkey] at htg
        generalize keyB nm = kk at htg kl16 Hnm
        have htg : Hid (Calls Tryz.prog 9 #[.int .u8 1, .slice (some ⟨wr.heap.size, 0, none⟩) 1 1] ((wr.alloc (.cells #[.string (nm.extract 0 q)] 9)).drew) fun e w' => e = .returned (.string ⟨kk.toArray⟩) ∧ Below wr.drew.heap.size wr.drew w') := htg
        have hS0 : Hid (wr.drew.cell? ⟨g, o + k * 2, none⟩ = some (.string nm) ∧ wr.drew.cell? ⟨g, o + k * 2 + 1, none⟩ = some (.string vl)) := Lib.hid ⟨hc1, hc2⟩
        have hgr : g < wr.heap.size := by omega
        have hS1 := Lib.hid (fun (ob : Obj) => (⟨(((Below.refl wr.drew.heap.size wr.drew).alloc (Nat.le_refl _) ob).cell (p := ⟨g, o + k * 2, none⟩) hgr).trans hS0.out.1, (((Below.refl wr.drew.heap.size wr.drew).alloc (Nat.le_refl _) ob).cell (p := ⟨g, o + k * 2 + 1, none⟩) hgr).trans hS0.out.2⟩ : (wr.alloc ob).drew.cell? ⟨g, o + k * 2, none⟩ = some (.string nm) ∧ (wr.alloc ob).drew.cell? ⟨g, o + k * 2 + 1, none⟩ = some (.string vl)))
        have hS2 := Lib.hid (fun w5 (hb : Below wr.drew.heap.size wr.drew w5) => (⟨(hb.cell (p := ⟨g, o + k * 2, none⟩) hgr).trans hS0.out.1, (hb.cell (p := ⟨g, o + k * 2 + 1, none⟩) hgr).trans hS0.out.2⟩ : w5.cell? ⟨g, o + k * 2, none⟩ = some (.string nm) ∧ w5.cell? ⟨g, o + k * 2 + 1, none⟩ = some (.string vl)))
        have hput := Lib.hid (fun w5 (hb : Below wr.drew.heap.size wr.drew w5) => tput_any p b ((putsOf l k).reverse ++ m) ⟨kk.toArray⟩ (vl.extract 0 r) w5 (ht.old (below_call0 hb)) (by show kk.toArray.size = 16; rw [List.size_toArray, kl16]) (by omega) (by rw [List.length_append, List.length_reverse]; have := putsOf_length l k; omega))
        have hS3 := Lib.hid (fun w5 w6 (hb : Below wr.drew.heap.size wr.drew w5) (h6 : Touch (· = b) w5 w6) => (⟨(h6.heap_cell (hS2.out w5 hb).1 (show g ≠ b from hgb)), (h6.heap_cell (hS2.out w5 hb).2 (show g ≠ b from hgb))⟩ : w6.cell? ⟨g, o + k * 2, none⟩ = some (.string nm) ∧ w6.cell? ⟨g, o + k * 2 + 1, none⟩ = some (.string vl)))
        have HT := Lib.hid hT
        clear hc1 hc2 ht hT hcn hcv hkey sn sv
        go_wp2_with fail
        go_region_held3 (fun W' => W'.cell? ⟨g, o + k * 2, none⟩ = some (.string nm) ∧ W'.cell? ⟨g, o + k * 2 + 1, none⟩ = some (.string vl)) (first | exact hS0.out | exact hS1.out _ | exact hS3.out _ _ (by assumption) (by assumption) | exact hS2.out _ (by assumption))
          (first
            | (go_at_call 9; with_reducible refine htg.out.mono ?_; rintro e w5 ⟨rfl, hb5⟩)
            | (go_at_call 8; with_reducible refine (hput.out _ (by assumption)).mono ?_; rintro e w6 ⟨rfl, ht6, hT6⟩))
        all_goals
          go_wp2
          refine ⟨⟨k + 1, by omega, by omega, by go_num, ?_, HT.out.trans ((Touch.of_below (below_call0 hb5) _).trans hT6)⟩, by simp [intOf]; omega⟩
          rw [hsucc.out, Hnm.out, List.reverse_append]
          exact ht6
      · have h2' : ¬ (k : Int) < 8 := by omega
        go_wp2
        exact HQ.out _ _ _ _ _ _ _ _ _ _ _ _ _ _ _ _ _ _ _ _ _ _ _ _ _ _ _ _ _ _ _ _ _ _ _ _ _ _ _ _ k _ (by omega) ht hT
    · have h1' : ¬ (k : Int) < (n : Int) := by omega
      go_wp2
      exact HQ.out _ _ _ _ _ _ _ _ _ _ _ _ _ _ _ _ _ _ _ _ _ _ _ _ _ _ _ _ _ _ _ _ _ _ _ _ _ _ _ _ k _ (by omega) ht hT

set_option maxRecDepth 100000 in
set_option maxHeartbeats 8000000 in
theorem putB (a : Option Addr) (n c p b : Nat) (l : List (ByteArray × ByteArray)) (m : Puts) (w0 w : World) (Q : Exit → Act → World → Prop) {v0 v2 v3 v4 v5 v6 v7 v8 v9 v11 v12 v13 v14 v15 v16 v17 v18 v19 v21 v22 v23 v24 v25 v26 v27 v28 v29 v30 v31 v32 v33 v34 v35 v36 v37 v38 v39 v40 v41 v42 v43 v44 v45 v46 v47 v48 v49 v50 v51 v52 v53 v54 v55 v56 v57 v58 v59 v60 v61 v62 v63 v64 v65 v66 v67 v68 v69 v70 v71 v72 v73 v74 v75 v76 v77 v78 v79 v80 v81 v82 v83 v84 v85 v86 v87 v88 v89 v90 v91 v92 v93 v94 v95 v96 v97 v98 v99 v100 v101 v102 v103 v104 v105 v106 v107 v108 v109 v110 v111 v112 v113 v114 v115 v116 v117 v118 v119 v120 v121 v122 v123 v124 v125 v126 v127 v128 v129 v130 v131 v132 v133 v134 v135 v136 v137 v138 v139 v140 v141 v142 v143 v144 v145 v146 v147 v148 v149 v150 v151 v152 v153 v154 v155 v156 v157 v158 v159 v160 v161 v162 v163 v164 v165 v166 v167 v168 v169 v170 v171 v172 v173 v174 v175 v176 v177 v178 v179 v180 v181 v182 v183 v184 v185 v186 v187 v188 v189 v190 v191 v192 v193 v194 v195 v196 v197 v198 v199 v200 v201 v202 v203 v204 v205 v206 v207 v208 v209 v210 v211 v212 v213 v214 v215 v216 v217 v218 v219 v220 v221 v222 v223 v224 v225 v226 v227 v228 v229 v230 v231 v232 v233 v234 v235 v236 v237 v238 v239 v240 v241 v242 v243 v244 v245 v246 v247 v248 v249 v250 v251 v252 v253 v254 v255 v256 v257 v258 v259 v260 v261 v262 v263 v264 v265 v266 v267 v268 v269 v270 v271 v272 v273 v274 v275 v276 v277 v278 v279 v280 v281 v282 : Value} (hK : Kon w0) (hp : PutsAt w0 a n l) (hB : Below w0.heap.size w0 w) (hb0 : w0.heap.size ≤ b) (ht : TreeAt w p b m) (hm : m.length ≤ 900)
    (hQ : ∀ (u170 u171 u172 u173 u174 u175 u176 u177 u178 u179 u180 u181 u182 u183 u184 u185 u186 u187 u188 u189 u190 u191 u192 u193 u194 u195 u196 u197 u198 u199 u200 u201 u202 u203 u204 u205 u206 u207 u208 u209 : Value) (K : Nat) (W : World), K = min n 8 → TreeAt W p b ((putsOf l K).reverse ++ m) → Touch (· = b) w W → Q (.exit 6) { tmps := #[v0, .slice a n c, v2, v3, v4, v5, v6, v7, v8, v9, .pointer (some ⟨p, 0, none⟩), v11, v12, v13, v14, v15, v16, v17, v18, v19, .int .i64 (K : Int), v21, v22, v23, v24, v25, v26, v27, v28, v29, v30, v31, v32, v33, v34, v35, v36, v37, v38, v39, v40, v41, v42, v43, v44, v45, v46, v47, v48, v49, v50, v51, v52, v53, v54, v55, v56, v57, v58, v59, v60, v61, v62, v63, v64, v65, v66, v67, v68, v69, v70, v71, v72, v73, v74, v75, v76, v77, v78, v79, v80, v81, v82, v83, v84, v85, v86, v87, v88, v89, v90, v91, v92, v93, v94, v95, v96, v97, v98, v99, v100, v101, v102, v103, v104, v105, v106, v107, v108, v109, v110, v111, v112, v113, v114, v115, v116, v117, v118, v119, v120, v121, v122, v123, v124, v125, v126, v127, v128, v129, v130, v131, v132, v133, v134, v135, v136, v137, v138, v139, v140, v141, v142, v143, v144, v145, v146, v147, v148, v149, v150, v151, v152, v153, v154, v155, v156, v157, v158, v159, v160, v161, v162, v163, v164, v165, v166, v167, v168, v169, u170, u171, u172, u173, u174, u175, u176, u177, u178, u179, u180, u181, u182, u183, u184, u185, u186, u187, u188, u189, u190, u191, u192, u193, u194, u195, u196, u197, u198, u199, u200, u201, u202, u203, u204, u205, u206, u207, u208, u209, v210, v211, v212, v213, v214, v215, v216, v217, v218, v219, v220, v221, v222, v223, v224, v225, v226, v227, v228, v229, v230, v231, v232, v233, v234, v235, v236, v237, v238, v239, v240, v241, v242, v243, v244, v245, v246, v247, v248, v249, v250, v251, v252, v253, v254, v255, v256, v257, v258, v259, v260, v261, v262, v263, v264, v265, v266, v267, v268, v269, v270, v271, v272, v273, v274, v275, v276, v277, v278, v279, v280, v281, v282], defers := [] } W) :
    (cdB (cdR (cdL (cdR (cdR (cdR (cdR (cdR (cdR (cdR (cdR (cdR (cdOf Tryz.f3.body))))))))))))).wp Tryz.prog Q { tmps := #[v0, .slice a n c, v2, v3, v4, v5, v6, v7, v8, v9, .pointer (some ⟨p, 0, none⟩), v11, v12, v13, v14, v15, v16, v17, v18, v19, .int .i64 0, v21, v22, v23, v24, v25, v26, v27, v28, v29, v30, v31, v32, v33, v34, v35, v36, v37, v38, v39, v40, v41, v42, v43, v44, v45, v46, v47, v48, v49, v50, v51, v52, v53, v54, v55, v56, v57, v58, v59, v60, v61, v62, v63, v64, v65, v66, v67, v68, v69, v70, v71, v72, v73, v74, v75, v76, v77, v78, v79, v80, v81, v82, v83, v84, v85, v86, v87, v88, v89, v90, v91, v92, v93, v94, v95, v96, v97, v98, v99, v100, v101, v102, v103, v104, v105, v106, v107, v108, v109, v110, v111, v112, v113, v114, v115, v116, v117, v118, v119, v120, v121, v122, v123, v124, v125, v126, v127, v128, v129, v130, v131, v132, v133, v134, v135, v136, v137, v138, v139, v140, v141, v142, v143, v144, v145, v146, v147, v148, v149, v150, v151, v152, v153, v154, v155, v156, v157, v158, v159, v160, v161, v162, v163, v164, v165, v166, v167, v168, v169, v170, v171, v172, v173, v174, v175, v176, v177, v178, v179, v180, v181, v182, v183, v184, v185, v186, v187, v188, v189, v190, v191, v192, v193, v194, v195, v196, v197, v198, v199, v200, v201, v202, v203, v204, v205, v206, v207, v208, v209, v210, v211, v212, v213, v214, v215, v216, v217, v218, v219, v220, v221, v222, v223, v224, v225, v226, v227, v228, v229, v230, v231, v232, v233, v234, v235, v236, v237, v238, v239, v240, v241, v242, v243, v244, v245, v246, v247, v248, v249, v250, v251, v252, v253, v254, v255, v256, v257, v258, v259, v260, v261, v262, v263, v264, v265, v266, v267, v268, v269, v270, v271, v272, v273, v274, v275, v276, v277, v278, v279, v280, v281, v282], defers := [] } w := by
  have HK := Lib.hid hK
  have HP := Lib.hid hp
  have HQ := Lib.hid hQ
  have HT0 := Lib.hid ht
  have hl2 := ht.lt
  have s0 := hB.size
  clear hK hp hQ ht
  simp only [cdL, cdR, cdB, cdOf, Tryz.f3]
  go_loopw [20] (fun i W => ∃ k : Nat, k ≤ n ∧ k ≤ 8 ∧ i = .int .i64 (k : Int) ∧ TreeAt W p b ((putsOf l k).reverse ++ m) ∧ Touch (· = b) w W) (fun i _ => n - (intOf i).toNat)
  case atStart => exact ⟨0, Nat.zero_le _, Nat.zero_le _, rfl, HT0.out, Touch.refl _ _⟩
  case round =>
    obtain ⟨k, hk, hk8, rfl, ht, hT⟩ := hrel
    by_cases h1 : k < n
    · have h1' : (k : Int) < (n : Int) := by omega
      by_cases h2 : k < 8
      · have h2' : (k : Int) < 8 := by omega
        have hkl : k < l.length := by rw [HP.out.len]; exact h1
        have swr := hT.size
        have hwr : Below w0.heap.size w0 wr := hB.trans (hT.below (B := w0.heap.size) (by rintro i rfl; exact hb0) s0)
        obtain ⟨g, o, rfl, hg, hc1, hc2⟩ := HP.out.cell k hkl
        have hgb : g ≠ b := by omega
        have hc1 := (hwr.cell (p := ⟨g, o + k * 2, none⟩) hg).trans hc1
        have hc2 := (hwr.cell (p := ⟨g, o + k * 2 + 1, none⟩) hg).trans hc2
        have hsucc := Lib.hid (putsOf_succ hkl)
        obtain ⟨nm, hnm⟩ : ∃ nm, nm = (l[k]).1 := ⟨_, rfl⟩
        obtain ⟨vl, hvl⟩ : ∃ vl, vl = (l[k]).2 := ⟨_, rfl⟩
        rw [← hnm] at hc1
        rw [← hvl] at hc2
        have Hnm := Lib.hid (show putOf l[k] = (keyB nm, (cutB vl).data.toList) by rw [hnm, hvl]; rfl)
        clear hnm hvl
        obtain ⟨q, hq⟩ : ∃ q, q = min nm.size 20 := ⟨_, rfl⟩
        obtain ⟨r, hr⟩ : ∃ r, r = min vl.size 20 := ⟨_, rfl⟩
        have hcn : cutB nm = nm.extract 0 q := by rw [hq]; rfl
        have hcv : cutB vl = vl.extract 0 r := by rw [hr]; rfl
        have hqm : (if (20 : Int) < (nm.size : Int) then (20 : Int) else (nm.size : Int)) = (q : Int) := by split <;> omega
        have hrm : (if (20 : Int) < (vl.size : Int) then (20 : Int) else (vl.size : Int)) = (r : Int) := by split <;> omega
        have hmq : ∀ (W : World) (ts : Array TypeId) (t : TypeId), (Builtin.min_ ts t #[.int .i64 (nm.size : Int), .int .i64 20]).run Tryz.prog W = .ok (.int .i64 (q : Int)) W := fun W ts t => by rw [run_min_int2, hqm]
        have hmr : ∀ (W : World) (ts : Array TypeId) (t : TypeId), (Builtin.min_ ts t #[.int .i64 (vl.size : Int), .int .i64 20]).run Tryz.prog W = .ok (.int .i64 (r : Int)) W := fun W ts t => by rw [run_min_int2, hrm]
        have hq0 : (0 : Int) ≤ (q : Int) := by omega
        have hr0 : (0 : Int) ≤ (r : Int) := by omega
        have hq1 : (q : Int) ≤ (nm.size : Int) := by omega
        have hr1 : (r : Int) ≤ (vl.size : Int) := by omega
        clear hq hr
        have hslq : ∀ W, (Instr.slice 9 (.string nm) none (some (.int .i64 (q : Int))) none).run Tryz.prog W = .ok (.string (nm.extract 0 q)) W := fun W => by go_simp
        have hslr : ∀ W, (Instr.slice 9 (.string vl) none (some (.int .i64 (r : Int))) none).run Tryz.prog W = .ok (.string (vl.extract 0 r)) W := fun W => by go_simp
        have sn := cutB_size nm
        have sv := cutB_size vl
        have kl16 := keyB_length nm
        have hkey : keyB nm = tagOf 1 [(nm.extract 0 q).data.toList] := by unfold keyB; rw [hcn]
        rw [hcn] at sn
        rw [hcv] at sv Hnm
        have htg := Lib.hid (tagged_one 1 (nm.extract 0 q) wr.drew (by decide) (by omega) (HK.out.old hwr.drew))
        rw [← hkey] at htg
        generalize keyB nm = kk at htg kl16 Hnm
        have htg : Hid (Calls Tryz.prog 9 #[.int .u8 1, .slice (some ⟨wr.heap.size, 0, none⟩) 1 1] ((wr.alloc (.cells #[.string (nm.extract 0 q)] 9)).drew) fun e w' => e = .returned (.string ⟨kk.toArray⟩) ∧ Below wr.drew.heap.size wr.drew w') := htg
        have hS0 : Hid (wr.drew.cell? ⟨g, o + k * 2, none⟩ = some (.string nm) ∧ wr.drew.cell? ⟨g, o + k * 2 + 1, none⟩ = some (.string vl)) := Lib.hid ⟨hc1, hc2⟩
        have hgr : g < wr.heap.size := by omega
        have hS1 := Lib.hid (fun (ob : Obj) => (⟨(((Below.refl wr.drew.heap.size wr.drew).alloc (Nat.le_refl _) ob).cell (p := ⟨g, o + k * 2, none⟩) hgr).trans hS0.out.1, (((Below.refl wr.drew.heap.size wr.drew).alloc (Nat.le_refl _) ob).cell (p := ⟨g, o + k * 2 + 1, none⟩) hgr).trans hS0.out.2⟩ : (wr.alloc ob).drew.cell? ⟨g, o + k * 2, none⟩ = some (.string nm) ∧ (wr.alloc ob).drew.cell? ⟨g, o + k * 2 + 1, none⟩ = some (.string vl)))
        have hS2 := Lib.hid (fun w5 (hb : Below wr.drew.heap.size wr.drew w5) => (⟨(hb.cell (p := ⟨g, o + k * 2, none⟩) hgr).trans hS0.out.1, (hb.cell (p := ⟨g, o + k * 2 + 1, none⟩) hgr).trans hS0.out.2⟩ : w5.cell? ⟨g, o + k * 2, none⟩ = some (.string nm) ∧ w5.cell? ⟨g, o + k * 2 + 1, none⟩ = some (.string vl)))
        have hput := Lib.hid (fun w5 (hb : Below wr.drew.heap.size wr.drew w5) => tput_any p b ((putsOf l k).reverse ++ m) ⟨kk.toArray⟩ (vl.extract 0 r) w5 (ht.old (below_call0 hb)) (by show kk.toArray.size = 16; rw [List.size_toArray, kl16]) (by omega) (by rw [List.length_append, List.length_reverse]; have := putsOf_length l k; omega))
        have hS3 := Lib.hid (fun w5 w6 (hb : Below wr.drew.heap.size wr.drew w5) (h6 : Touch (· = b) w5 w6) => (⟨(h6.heap_cell (hS2.out w5 hb).1 (show g ≠ b from hgb)), (h6.heap_cell (hS2.out w5 hb).2 (show g ≠ b from hgb))⟩ : w6.cell? ⟨g, o + k * 2, none⟩ = some (.string nm) ∧ w6.cell? ⟨g, o + k * 2 + 1, none⟩ = some (.string vl)))
        have HT := Lib.hid hT
        clear hc1 hc2 ht hT hcn hcv hkey sn sv
        go_wp2_with fail
        go_region_held3 (fun W' => W'.cell? ⟨g, o + k * 2, none⟩ = some (.string nm) ∧ W'.cell? ⟨g, o + k * 2 + 1, none⟩ = some (.string vl)) (first | exact hS0.out | exact hS1.out _ | exact hS3.out _ _ (by assumption) (by assumption) | exact hS2.out _ (by assumption))
          (first
            | (go_at_call 9; with_reducible refine htg.out.mono ?_; rintro e w5 ⟨rfl, hb5⟩)
            | (go_at_call 8; with_reducible refine (hput.out _ (by assumption)).mono ?_; rintro e w6 ⟨rfl, ht6, hT6⟩))
        all_goals
          go_wp2
          refine ⟨⟨k + 1, by omega, by omega, by go_num, ?_, HT.out.trans ((Touch.of_below (below_call0 hb5) _).trans hT6)⟩, by simp [intOf]; omega⟩
          rw [hsucc.out, Hnm.out, List.reverse_append]
          exact ht6
      · have h2' : ¬ (k : Int) < 8 := by omega
        go_wp2
        exact HQ.out _ _ _ _ _ _ _ _ _ _ _ _ _ _ _ _ _ _ _ _ _ _ _ _ _ _ _ _ _ _ _ _ _ _ _ _ _ _ _ _ k _ (by omega) ht hT
    · have h1' : ¬ (k : Int) < (n : Int) := by omega
      go_wp2
      exact HQ.out _ _ _ _ _ _ _ _ _ _ _ _ _ _ _ _ _ _ _ _ _ _ _ _ _ _ _ _ _ _ _ _ _ _ _ _ _ _ _ _ k _ (by omega) ht hT

end Go.Proofs.YtcgkomafaepjnaaGreatDoor
namespace Go.Proofs.YtcgkomafaepjnaaGreatDoor
open Go.RowKit

def chCells (cs : Puts) : List Value := cs.flatMap fun q => [.string ⟨q.1.toArray⟩, .string ⟨q.2.toArray⟩]
theorem chCells_snoc (cs : Puts) (q : Tx × Tx) : chCells (cs ++ [q]) = chCells cs ++ [.string ⟨q.1.toArray⟩, .string ⟨q.2.toArray⟩] := by simp [chCells]
theorem ofBand_snoc (l : Puts) (q : Tx × Tx) (d b : Nat) : ofBand (l ++ [q]) d b = ofBand l d b ++ (if bandTo q.1 d = b then [q] else []) := by
  unfold ofBand
  rw [List.filter_append, List.filter_cons, List.filter_nil]
  by_cases h : bandTo q.1 d = b
  · rw [if_pos h, if_pos (by simpa using h)]
  · rw [if_neg h, if_neg (by simpa using h)]
theorem ofBand_few (l : List (ByteArray × ByteArray)) (k d b : Nat) : (ofBand (putsOf l k) d b).length ≤ k := Nat.le_trans (List.length_filter_le _ _) (putsOf_length l k)
theorem Tryz.infoChange : (Tryz.prog.info? 38).map (fun i => (i.zero, i.size, i.bytes)) = some (some (.agg #[.string .empty, .string .empty]), 2, 32) := by kernel_rfl

set_option maxRecDepth 100000 in
set_option maxHeartbeats 8000000 in
theorem gather (a : Option Addr) (n c bn d : Nat) (l : List (ByteArray × ByteArray)) (w0 w : World) (Q : Exit → Act → World → Prop) {v0 v2 v3 v4 v5 v6 v8 v9 v10 v11 v12 v16 v17 v18 v19 v20 v21 v22 v23 v24 v25 v26 v27 v28 v29 v30 v31 v32 v33 v34 v35 v36 v37 v38 v39 v40 v41 v42 v43 v44 v45 v46 v47 v48 v49 v50 v51 v52 v53 v54 v55 v56 v57 v58 v59 v60 v61 v62 v63 v64 v65 v66 v67 v68 v69 v70 v71 v72 v73 v74 v75 v76 v77 v78 v79 v80 v81 v82 v83 v84 v85 v86 v87 v88 v89 v90 v91 v92 v93 v94 v95 v96 v97 v98 v99 v100 v101 v102 v103 v104 v105 v106 v107 v108 v109 v110 v111 v112 v113 v114 v115 v116 v117 v118 v119 v120 v121 v122 v123 v124 v125 v126 v127 v128 v129 v130 v131 v132 v133 v134 v135 v136 v137 v138 v139 v140 v141 v142 v143 v144 v145 v146 v147 v148 v149 v150 v151 v152 v153 v154 v155 v156 v157 v158 v159 v160 v161 v162 v163 v164 v165 v166 v167 v168 v169 v170 v171 v172 v173 v174 v175 v176 v177 v178 v179 v180 v181 v182 v183 v184 v185 v186 v187 v188 v189 v190 v191 v192 v193 v194 v195 v196 v197 v198 v199 v200 v201 v202 v203 v204 v205 v206 v207 v208 v209 v210 v211 v212 v213 v214 v215 v216 v217 v218 v219 v220 v221 v222 v223 v224 v225 v226 v227 v228 v229 v230 v231 v232 v233 v234 v235 v236 v237 v238 v239 v240 v241 v242 v243 v244 v245 v246 v247 v248 v249 v250 v251 v252 v253 v254 v255 v256 v257 v258 v259 v260 v261 v262 v263 v264 v265 v266 v267 v268 v269 v270 v271 v272 v273 v274 v275 v276 v277 v278 v279 v280 v281 v282 : Value} (hK : Kon w0) (hp : PutsAt w0 a n l) (hB : Below w0.heap.size w0 w) (hd : d ≤ 3)
    (hQ : ∀ (u16 u91 u92 u93 u94 u95 u96 u97 u98 u99 u100 u101 u102 u103 u104 u105 u106 u107 u108 u109 u110 u111 u112 u113 u114 u115 u116 u117 u118 u119 u120 u121 u122 u123 u124 u125 u126 u127 u128 u129 u130 u131 u132 u133 u134 u135 u136 u137 u138 : Value) (K J c4 : Nat) (a4 : Option Addr) (W : World), K = min n 8 → J = (ofBand (putsOf l K) d bn).length → W.ownsRow w.heap.size 38 2 (.slice a4 J c4) J (chCells (ofBand (putsOf l K) d bn)) → Below w.heap.size w W → Q (.exit 4) { tmps := #[v0, .slice a n c, v2, v3, v4, v5, v6, .int .i64 (d : Int), v8, v9, v10, v11, v12, .int .i64 (bn : Int), .slice a4 J c4, .int .i64 (K : Int), u16, v17, v18, v19, v20, v21, v22, v23, v24, v25, v26, v27, v28, v29, v30, v31, v32, v33, v34, v35, v36, v37, v38, v39, v40, v41, v42, v43, v44, v45, v46, v47, v48, v49, v50, v51, v52, v53, v54, v55, v56, v57, v58, v59, v60, v61, v62, v63, v64, v65, v66, v67, v68, v69, v70, v71, v72, v73, v74, v75, v76, v77, v78, v79, v80, v81, v82, v83, v84, v85, v86, v87, v88, v89, v90, u91, u92, u93, u94, u95, u96, u97, u98, u99, u100, u101, u102, u103, u104, u105, u106, u107, u108, u109, u110, u111, u112, u113, u114, u115, u116, u117, u118, u119, u120, u121, u122, u123, u124, u125, u126, u127, u128, u129, u130, u131, u132, u133, u134, u135, u136, u137, u138, v139, v140, v141, v142, v143, v144, v145, v146, v147, v148, v149, v150, v151, v152, v153, v154, v155, v156, v157, v158, v159, v160, v161, v162, v163, v164, v165, v166, v167, v168, v169, v170, v171, v172, v173, v174, v175, v176, v177, v178, v179, v180, v181, v182, v183, v184, v185, v186, v187, v188, v189, v190, v191, v192, v193, v194, v195, v196, v197, v198, v199, v200, v201, v202, v203, v204, v205, v206, v207, v208, v209, v210, v211, v212, v213, v214, v215, v216, v217, v218, v219, v220, v221, v222, v223, v224, v225, v226, v227, v228, v229, v230, v231, v232, v233, v234, v235, v236, v237, v238, v239, v240, v241, v242, v243, v244, v245, v246, v247, v248, v249, v250, v251, v252, v253, v254, v255, v256, v257, v258, v259, v260, v261, v262, v263, v264, v265, v266, v267, v268, v269, v270, v271, v272, v273, v274, v275, v276, v277, v278, v279, v280, v281, v282], defers := [] } W) :
    (cdB (cdR (cdL (cdR (cdB (cdL (cdR (cdLp (cdB (cdR (cdL (cdR (cdR (cdR (cdR (cdR (cdR (cdR (cdR (cdOf Tryz.f3.body)))))))))))))))))))).wp Tryz.prog Q { tmps := #[v0, .slice a n c, v2, v3, v4, v5, v6, .int .i64 (d : Int), v8, v9, v10, v11, v12, .int .i64 (bn : Int), .slice none 0 0, .int .i64 0, v16, v17, v18, v19, v20, v21, v22, v23, v24, v25, v26, v27, v28, v29, v30, v31, v32, v33, v34, v35, v36, v37, v38, v39, v40, v41, v42, v43, v44, v45, v46, v47, v48, v49, v50, v51, v52, v53, v54, v55, v56, v57, v58, v59, v60, v61, v62, v63, v64, v65, v66, v67, v68, v69, v70, v71, v72, v73, v74, v75, v76, v77, v78, v79, v80, v81, v82, v83, v84, v85, v86, v87, v88, v89, v90, v91, v92, v93, v94, v95, v96, v97, v98, v99, v100, v101, v102, v103, v104, v105, v106, v107, v108, v109, v110, v111, v112, v113, v114, v115, v116, v117, v118, v119, v120, v121, v122, v123, v124, v125, v126, v127, v128, v129, v130, v131, v132, v133, v134, v135, v136, v137, v138, v139, v140, v141, v142, v143, v144, v145, v146, v147, v148, v149, v150, v151, v152, v153, v154, v155, v156, v157, v158, v159, v160, v161, v162, v163, v164, v165, v166, v167, v168, v169, v170, v171, v172, v173, v174, v175, v176, v177, v178, v179, v180, v181, v182, v183, v184, v185, v186, v187, v188, v189, v190, v191, v192, v193, v194, v195, v196, v197, v198, v199, v200, v201, v202, v203, v204, v205, v206, v207, v208, v209, v210, v211, v212, v213, v214, v215, v216, v217, v218, v219, v220, v221, v222, v223, v224, v225, v226, v227, v228, v229, v230, v231, v232, v233, v234, v235, v236, v237, v238, v239, v240, v241, v242, v243, v244, v245, v246, v247, v248, v249, v250, v251, v252, v253, v254, v255, v256, v257, v258, v259, v260, v261, v262, v263, v264, v265, v266, v267, v268, v269, v270, v271, v272, v273, v274, v275, v276, v277, v278, v279, v280, v281, v282], defers := [] } w := by
  have HK := Lib.hid hK
  have HP := Lib.hid hp
  have HQ := Lib.hid hQ
  have s0 := hB.size
  clear hK hp hQ
  simp only [cdL, cdR, cdB, cdOf, cdLp, Tryz.f3]
  go_loopw [14, 15] (fun v i W => ∃ k : Nat, k ≤ n ∧ k ≤ 8 ∧ i = .int .i64 (k : Int) ∧ W.ownsRow w.heap.size 38 2 v (ofBand (putsOf l k) d bn).length (chCells (ofBand (putsOf l k) d bn)) ∧ Below w.heap.size w W) (fun _ i _ => n - (intOf i).toNat)
  case atStart => exact ⟨0, Nat.zero_le _, Nat.zero_le _, rfl, World.ownsRow_nil _ _ _ _, Below.refl _ _⟩
  case round =>
    obtain ⟨k, hk, hk8, rfl, hown, hb⟩ := hrel
    have hj8 := ofBand_few l k d bn
    obtain ⟨cs, hcs⟩ : ∃ cs, cs = ofBand (putsOf l k) d bn := ⟨_, rfl⟩
    obtain ⟨j, hj⟩ : ∃ j, j = (ofBand (putsOf l k) d bn).length := ⟨_, rfl⟩
    rw [← hj] at hown hj8
    rw [← hcs] at hown
    have Hj := Lib.hid hj
    have Hcs := Lib.hid hcs
    clear hj hcs
    obtain ⟨av, cv, rfl⟩ := own_slice hown
    by_cases h1 : k < n
    · have h1' : (k : Int) < (n : Int) := by omega
      by_cases h2 : k < 8
      · have h2' : (k : Int) < 8 := by omega
        have hkl : k < l.length := by rw [HP.out.len]; exact h1
        have swr := hb.size
        have hwr : Below w0.heap.size w0 wr := hB.trans (hb.mono s0)
        obtain ⟨g, o, rfl, hg, hc1, hc2⟩ := HP.out.cell k hkl
        have hc1 := (hwr.cell (p := ⟨g, o + k * 2, none⟩) hg).trans hc1
        have hc2 := (hwr.cell (p := ⟨g, o + k * 2 + 1, none⟩) hg).trans hc2
        have hsucc := Lib.hid (putsOf_succ hkl)
        obtain ⟨nm, hnm⟩ : ∃ nm, nm = (l[k]).1 := ⟨_, rfl⟩
        obtain ⟨vl, hvl⟩ : ∃ vl, vl = (l[k]).2 := ⟨_, rfl⟩
        rw [← hnm] at hc1
        rw [← hvl] at hc2
        have Hnm := Lib.hid (show putOf l[k] = (keyB nm, (cutB vl).data.toList) by rw [hnm, hvl]; rfl)
        clear hnm hvl
        obtain ⟨q, hq⟩ : ∃ q, q = min nm.size 20 := ⟨_, rfl⟩
        obtain ⟨r, hr⟩ : ∃ r, r = min vl.size 20 := ⟨_, rfl⟩
        have hcn : cutB nm = nm.extract 0 q := by rw [hq]; rfl
        have hcv : cutB vl = vl.extract 0 r := by rw [hr]; rfl
        have hqm : (if (20 : Int) < (nm.size : Int) then (20 : Int) else (nm.size : Int)) = (q : Int) := by split <;> omega
        have hrm : (if (20 : Int) < (vl.size : Int) then (20 : Int) else (vl.size : Int)) = (r : Int) := by split <;> omega
        have hmq : ∀ (W : World) (ts : Array TypeId) (t : TypeId), (Builtin.min_ ts t #[.int .i64 (nm.size : Int), .int .i64 20]).run Tryz.prog W = .ok (.int .i64 (q : Int)) W := fun W ts t => by rw [run_min_int2, hqm]
        have hmr : ∀ (W : World) (ts : Array TypeId) (t : TypeId), (Builtin.min_ ts t #[.int .i64 (vl.size : Int), .int .i64 20]).run Tryz.prog W = .ok (.int .i64 (r : Int)) W := fun W ts t => by rw [run_min_int2, hrm]
        have hq0 : (0 : Int) ≤ (q : Int) := by omega
        have hr0 : (0 : Int) ≤ (r : Int) := by omega
        have hq1 : (q : Int) ≤ (nm.size : Int) := by omega
        have hr1 : (r : Int) ≤ (vl.size : Int) := by omega
        clear hq hr
        have hslq : ∀ W, (Instr.slice 9 (.string nm) none (some (.int .i64 (q : Int))) none).run Tryz.prog W = .ok (.string (nm.extract 0 q)) W := fun W => by go_simp
        have hslr : ∀ W, (Instr.slice 9 (.string vl) none (some (.int .i64 (r : Int))) none).run Tryz.prog W = .ok (.string (vl.extract 0 r)) W := fun W => by go_simp
        have sn := cutB_size nm
        have kl16 := keyB_length nm
        have hkey : keyB nm = tagOf 1 [(nm.extract 0 q).data.toList] := by unfold keyB; rw [hcn]
        rw [hcn] at sn
        rw [hcv] at Hnm
        have htg := Lib.hid (tagged_one 1 (nm.extract 0 q) wr.drew (by decide) (by omega) (HK.out.old hwr.drew))
        rw [← hkey] at htg
        generalize keyB nm = kk at htg kl16 Hnm
        have htg : Hid (Calls Tryz.prog 9 #[.int .u8 1, .slice (some ⟨wr.heap.size, 0, none⟩) 1 1] ((wr.alloc (.cells #[.string (nm.extract 0 q)] 9)).drew) fun e w' => e = .returned (.string ⟨kk.toArray⟩) ∧ Below wr.drew.heap.size wr.drew w') := htg
        have hgr : g < wr.heap.size := by omega
        have hS0 : Hid (wr.drew.cell? ⟨g, o + k * 2, none⟩ = some (.string nm)) := Lib.hid hc1
        have hS1 := Lib.hid (fun (ob : Obj) => ((((Below.refl wr.drew.heap.size wr.drew).alloc (Nat.le_refl _) ob).cell (p := ⟨g, o + k * 2, none⟩) hgr).trans hS0.out : (wr.alloc ob).drew.cell? ⟨g, o + k * 2, none⟩ = some (.string nm)))
        have hS2 := Lib.hid (fun w5 (hb : Below wr.drew.heap.size wr.drew w5) => ((hb.cell (p := ⟨g, o + k * 2, none⟩) hgr).trans hS0.out : w5.cell? ⟨g, o + k * 2, none⟩ = some (.string nm)))
        have Hc2 := Lib.hid hc2
        have hband := Lib.hid (fun W => band_in ⟨kk.toArray⟩ d W (by show kk.toArray.size ≤ _; rw [List.size_toArray, kl16]; decide) (by omega))
        have hband : Hid (∀ W, Calls Tryz.prog 13 #[.string ⟨kk.toArray⟩, .int .i64 (d : Int)] W fun e w' => e = .returned (.int .i64 (bandTo kk d)) ∧ W = w') := hband
        have Hown := Lib.hid hown
        have Hb := Lib.hid hb
        have Hwr := Lib.hid hwr
        have hjle : j ≤ 7 := by omega
        clear hc1 hc2 hcn hcv hkey sn hown hb hwr
        go_wp2_with fail
        go_region_held3 (fun W' => W'.cell? ⟨g, o + k * 2, none⟩ = some (.string nm)) (first | exact hS0.out | exact hS1.out _ | exact hS2.out _ (by assumption))
          (first
            | (go_at_call 9; with_reducible refine htg.out.mono ?_; rintro e w5 ⟨rfl, hb5⟩))
        have hb5' := below_call0 hb5
        clear hS0 hS1 hS2 hb5
        rename_i hHeld
        clear hHeld
        have hnext := Lib.hid (ofBand_snoc (putsOf l k) (putOf l[k]) d bn)
        rw [← hsucc.out, Hnm.out, ← Hcs.out] at hnext
        dsimp only at hnext
        have hw5 : Below w.heap.size w w5 := Hb.out.trans (hb5'.mono swr)
        have hown5 := (Touch.of_below hb5' (fun _ => False)).own Hown.out (fun _ _ h => h)
        have s5 := hb5'.size
        by_cases hbd : bandTo kk d = (bn : Int)
        · have hnext := Lib.hid (hnext.out.trans (by rw [if_pos hbd]))
          rw [hbd] at hband
          have hcv5 : Hid (w5.drew.cell? ⟨g, o + k * 2 + 1, none⟩ = some (.string vl)) := Lib.hid ((hb5'.cell (p := ⟨g, o + k * 2 + 1, none⟩) hgr).trans Hc2.out)
          have hcv6 := Lib.hid (fun (ob : Obj) => ((((Below.refl w5.drew.heap.size w5.drew).alloc (Nat.le_refl _) ob).cell (p := ⟨g, o + k * 2 + 1, none⟩) (show g < w5.heap.size by omega)).trans hcv5.out : (w5.alloc ob).drew.cell? ⟨g, o + k * 2 + 1, none⟩ = some (.string vl)))
          have hno : ∀ g', (Value.slice av j cv).ownBlock = some g' → w.heap.size ≤ g' := fun g' hg' => (hown5.lt g' hg').1
          have hcv7 := Lib.hid (fun (ob : Obj) (w7 : World) (hg7 : (w5.alloc ob).drew.grownBy w7 (Value.slice av j cv).ownBlock) => ((Touch.grown hg7).heap_cell (hcv6.out ob) (fun e => by have := hno g e.symm; omega) : w7.cell? ⟨g, o + k * 2 + 1, none⟩ = some (.string vl)))
          obtain ⟨i0, hinf, hz0, hz1, hz2⟩ := info_parts Tryz.infoChange
          have Hw5 := Lib.hid hw5
          have Hno := Lib.hid hno
          have hown5 : (w5.drew).ownsRow w.heap.size 38 2 (.slice av j cv) j (chCells cs) := hown5
          have Hown5 := Lib.hid hown5
          clear hw5 hno hown5 hbd
          go_wp2_with fail
          refine (hband.out w5).mono ?_
          rintro e w6 ⟨rfl, rfl⟩
          go_wp2_with fail
          go_region_held3 (fun W' => W'.cell? ⟨g, o + k * 2 + 1, none⟩ = some (.string vl)) (first | exact hcv5.out | exact hcv6.out _ | exact hcv7.out _ _ (by assumption))
            (first
              | (refine step_append_lies _ (by rfl) _ _ _ (by rfl) w.heap.size 38 i0 _ 2 32 Tryz.underlying35 hinf hz0 hz1 hz2 rfl (by omega) (.slice av j cv) j (chCells cs) (by rfl) (Hown5.out.alloc _) ⟨w5.heap.size, 0, none⟩ 1 1 [.string ⟨kk.toArray⟩, .string (vl.extract 0 r)] (by rfl) (by rfl) (World.news_of_block (cs := #[.string ⟨kk.toArray⟩, .string (vl.extract 0 r)]) (t := 38) (fr := (0, 0)) (heap_alloc_new w5.drew _)) (by simp [Value.oneCell']) (by omega) (by unfold maxLen; omega) (by omega) (by simp; omega) (w5.heap.size + 1) (by simp) ?_; intro gg cap2 w7 ho7 hg7 hat7 hlt7))
          go_wp2
          have hb6 := (Hw5.out.alloc (by omega) (.cells #[.string ⟨kk.toArray⟩, .string (vl.extract 0 r)] 38)).drew
          refine ⟨⟨k + 1, by omega, by omega, by go_num, ?_, hb6.grown hg7 hb6.size (fun i hi => Hno.out i hi)⟩, by simp [intOf]; omega⟩
          rw [hnext.out, List.length_append, chCells_snoc, Hcs.out, ← Hj.out, ← Hcs.out]
          exact ho7
        · have hnext := Lib.hid (hnext.out.trans (by rw [if_neg hbd, List.append_nil]))
          generalize bandTo kk d = t at hband hbd
          have hbd : (t == (bn : Int)) = false := by simpa using hbd
          go_wp2_with fail
          refine (hband.out w5).mono ?_
          rintro e w6 ⟨rfl, rfl⟩
          go_wp2
          refine ⟨⟨k + 1, by omega, by omega, by go_num, ?_, hw5⟩, by simp [intOf]; omega⟩
          rw [hnext.out, Hcs.out, ← Hj.out, ← Hcs.out]
          exact hown5
      · have h2' : ¬ (k : Int) < 8 := by omega
        go_wp2
        exact HQ.out _ _ _ _ _ _ _ _ _ _ _ _ _ _ _ _ _ _ _ _ _ _ _ _ _ _ _ _ _ _ _ _ _ _ _ _ _ _ _ _ _ _ _ _ _ _ _ _ _ k j cv av _ (by omega) Hj.out (Hcs.out ▸ hown) hb
    · have h1' : ¬ (k : Int) < (n : Int) := by omega
      go_wp2
      exact HQ.out _ _ _ _ _ _ _ _ _ _ _ _ _ _ _ _ _ _ _ _ _ _ _ _ _ _ _ _ _ _ _ _ _ _ _ _ _ _ _ _ _ _ _ _ _ _ _ _ _ k j cv av _ (by omega) Hj.out (Hcs.out ▸ hown) hb

end Go.Proofs.YtcgkomafaepjnaaGreatDoor
namespace Go.Proofs.YtcgkomafaepjnaaGreatDoor
open Go.RowKit

theorem chCells_at : ∀ (cs : Puts) (k : Nat) (h : k < cs.length), (chCells cs)[2 * k]? = some (.string ⟨(cs[k]).1.toArray⟩) ∧ (chCells cs)[2 * k + 1]? = some (.string ⟨(cs[k]).2.toArray⟩)
  | [], _, h => by simp at h
  | q :: cs, 0, _ => ⟨rfl, rfl⟩
  | q :: cs, k + 1, h => by
    have := chCells_at cs k (by simpa using h)
    unfold chCells at *
    rw [List.flatMap_cons]
    simp only [List.getElem_cons_succ]
    rw [show 2 * (k + 1) = 2 * k + 1 + 1 from by omega]
    exact this

theorem chrow_of_own {w : World} {R n c : Nat} {a : Option Addr} {cs : Puts} (h : w.ownsRow R 38 2 (.slice a n c) n (chCells cs)) (hn : n = cs.length) : Chrow w a cs :=
  ⟨fun k hk => by
    obtain ⟨g, cap, e, hb, hg⟩ := h.form (by omega)
    injection e with e1 e2 e3
    subst e1
    have hadd : ∀ i, (⟨g, 0, none⟩ : Addr).add i = ⟨g, 0 + i, none⟩ := fun i => by unfold Addr.add; split <;> simp_all
    have h0 := h.cells (g := g) rfl (2 * k) _ (chCells_at cs k hk).1
    have h1 := h.cells (g := g) rfl (2 * k + 1) _ (chCells_at cs k hk).2
    rw [hadd] at h0 h1
    refine ⟨g, 0, rfl, hg, ?_, ?_⟩
    · rw [show 0 + k * 2 = 0 + 2 * k from by omega, h0, List.getD_eq_getElem?_getD, List.getElem?_eq_getElem hk]; rfl
    · rw [show 0 + k * 2 + 1 = 0 + (2 * k + 1) from by omega, h1, List.getD_eq_getElem?_getD, List.getElem?_eq_getElem hk]; rfl⟩

theorem ofBand_mem {l : List (ByteArray × ByteArray)} {k d b : Nat} {q : Tx × Tx} (h : q ∈ ofBand (putsOf l k) d b) : q.1.length = 16 ∧ q.2.length ≤ 1000 ∧ bandTo q.1 d = b := by
  obtain ⟨h1, h2⟩ := List.mem_filter.1 h
  obtain ⟨h3, h4⟩ := putsOf_small h1
  exact ⟨h3, by omega, by simpa using h2⟩

/-- The nodes of the level, once one band's changes are put. -/
theorem level_step (A m : Puts) (d b : Nat) (hd : d ≤ 16) :
    hs.level (upto A d m (b + 1)) d = (hs.level (upto A d m b) d).set b (hs.at (valOf (upto A d m (b + 1))) (keysOf (upto A d m (b + 1))) (firstP b d) d) := by
  refine List.ext_getElem (by rw [List.length_set, level_length, level_length]) fun i h1 h2 => ?_
  rw [level_length] at h1
  have e1 : (hs.level (upto A d m (b + 1)) d)[i]'(by rw [level_length]; exact h1) = hs.at (valOf (upto A d m (b + 1))) (keysOf (upto A d m (b + 1))) (firstP i d) d := by
    rw [← level_at hs _ d i h1, List.getD_eq_getElem?_getD, List.getElem?_eq_getElem (by rw [level_length]; exact h1)]; rfl
  rw [e1, List.getElem_set]
  by_cases hi : b = i
  · subst hi
    simp
  · rw [if_neg hi]
    have e2 : (hs.level (upto A d m b) d)[i]'(by rw [level_length]; exact h1) = hs.at (valOf (upto A d m b)) (keysOf (upto A d m b)) (firstP i d) d := by
      rw [← level_at hs _ d i h1, List.getD_eq_getElem?_getD, List.getElem?_eq_getElem (by rw [level_length]; exact h1)]; rfl
    rw [e2, upto]
    exact level_kept hs (ofBand A d b).reverse (upto A d m b) d b i hd h1 (fun e => hi e.symm) (fun q hq => by
      have := (List.mem_filter.1 (List.mem_reverse.1 hq)).2
      simpa using this)

theorem encStr_set (l : List Tx) (i : Nat) (x : Tx) : (l.set i x).map encStr = (l.map encStr).set i (.string ⟨x.toArray⟩) := by
  rw [List.map_set]

/-- A tree's two blocks are no row of texts. -/
theorem tree_ne_row {w : World} {p b G R n c : Nat} {m : Puts} {xs : List Value} (ht : TreeAt w p b m) (ho : w.ownsRow R 9 1 (.slice (some ⟨G, 0, none⟩) n c) n xs) : p ≠ G ∧ b ≠ G := by
  rcases ho.2 with ⟨e, _⟩ | ⟨g, cap, cur, e, _, hg, _⟩
  · cases e
  · injection e with e1 e2 e3
    injection e1 with e1
    injection e1 with e1
    subst e1
    refine ⟨?_, ?_⟩
    · rintro rfl
      have := ht.blk.symm.trans hg
      injection this with this
      injection this with _ h2 _
      exact absurd h2 (by decide)
    · rintro rfl
      obtain ⟨D, ⟨es, clock, h1, _⟩, _⟩ := ht.map
      have := h1.symm.trans hg
      cases this

end Go.Proofs.YtcgkomafaepjnaaGreatDoor
