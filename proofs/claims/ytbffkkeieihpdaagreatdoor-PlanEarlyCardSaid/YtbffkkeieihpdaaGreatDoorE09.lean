import Derived.Test.YtbffkkeieihpdaaGreatDoorE08
import Derived.Test.YtbffkkeieihpdaaGreatDoorProg
import Derived.KernelRfl
import Derived.Laws.StructEq
set_option linter.unusedSimpArgs false
set_option linter.unusedVariables false
set_option linter.constructorNameAsVariable false
set_option maxRecDepth 100000
set_option maxHeartbeats 4000000
namespace Go.Proofs.YtbffkkeieihpdaaGreatDoor
open Go Go.Eng
section
def ti:TypeId→TI
 | 2=>⟨.int .i64,1,8,[.int .i64 0]⟩
 | 3=>⟨.int .i64,1,8,[.int .i64 0]⟩
 | 4=>⟨.bool,1,1,[.bool false]⟩
 | 5=>⟨.int .u8,1,1,[.int .u8 0]⟩
 | 9=>⟨.str,1,16,[.string ByteArray.empty]⟩
 | 21=>⟨.int .i32,1,4,[.int .i32 0]⟩
 | 22=>⟨.slice 85,1,24,[.slice none 0 0]⟩
 | 24=>⟨.struct [(0,22)] none,1,24,[.slice none 0 0]⟩
 | 25=>⟨.slice 71,1,24,[.slice none 0 0]⟩
 | 26=>⟨.int .i64,1,8,[.int .i64 0]⟩
 | 27=>⟨.int .i64,1,8,[.int .i64 0]⟩
 | 28=>⟨.slice 81,1,24,[.slice none 0 0]⟩
 | 29=>⟨.slice 28,1,24,[.slice none 0 0]⟩
 | 31=>⟨.struct [(0,25),(1,26),(2,27),(3,28),(4,2),(5,9),(6,29)] none,7,112,[.slice none 0 0,.int .i64 0,.int .i64 0,.slice none 0 0,.int .i64 0,.string ByteArray.empty,.slice none 0 0]⟩
 | 35=>⟨.slice 76,1,24,[.slice none 0 0]⟩
 | 36=>⟨.slice 73,1,24,[.slice none 0 0]⟩
 | 37=>⟨.slice 91,1,24,[.slice none 0 0]⟩
 | 38=>⟨.slice 4,1,24,[.slice none 0 0]⟩
 | 39=>⟨.slice 3,1,24,[.slice none 0 0]⟩
 | 41=>⟨.struct [(0,24),(1,31),(8,35),(9,36),(10,37),(11,38),(12,39),(13,37),(14,4),(15,4)] none,16,288,[.slice none 0 0,.slice none 0 0,.int .i64 0,.int .i64 0,.slice none 0 0,.int .i64 0,.string ByteArray.empty,.slice none 0 0,.slice none 0 0,.slice none 0 0,.slice none 0 0,.slice none 0 0,.slice none 0 0,.slice none 0 0,.bool false,.bool false]⟩
 | 42=>⟨.int .i64,1,8,[.int .i64 0]⟩
 | 43=>⟨.int .i64,1,8,[.int .i64 0]⟩
 | 45=>⟨.struct [(0,42),(1,43),(2,3),(3,3)] (some [.i .i64,.i .i64,.i .i64,.i .i64]),4,32,[.int .i64 0,.int .i64 0,.int .i64 0,.int .i64 0]⟩
 | 52=>⟨.slice 61,1,24,[.slice none 0 0]⟩
 | 53=>⟨.slice 61,1,24,[.slice none 0 0]⟩
 | 57=>⟨.int .u64,1,8,[.int .u64 0]⟩
 | 58=>⟨.arr 8 2,8,64,[.int .i64 0,.int .i64 0,.int .i64 0,.int .i64 0,.int .i64 0,.int .i64 0,.int .i64 0,.int .i64 0]⟩
 | 60=>⟨.struct [(0,2),(1,57),(2,3),(3,58)] (some [.i .i64,.i .u64,.i .i64,.i .i64,.i .i64,.i .i64,.i .i64,.i .i64,.i .i64,.i .i64,.i .i64]),11,88,[.int .i64 0,.int .u64 0,.int .i64 0,.int .i64 0,.int .i64 0,.int .i64 0,.int .i64 0,.int .i64 0,.int .i64 0,.int .i64 0,.int .i64 0]⟩
 | 61=>⟨.slice 60,1,24,[.slice none 0 0]⟩
 | 69=>⟨.slice 9,1,24,[.slice none 0 0]⟩
 | 71=>⟨.struct [(0,4),(1,69),(2,9),(3,3),(4,3)] none,5,64,[.bool false,.slice none 0 0,.string ByteArray.empty,.int .i64 0,.int .i64 0]⟩
 | 73=>⟨.struct [(0,3),(1,39),(2,3),(3,3),(4,37),(5,37)] none,6,96,[.int .i64 0,.slice none 0 0,.int .i64 0,.int .i64 0,.slice none 0 0,.slice none 0 0]⟩
 | 74=>⟨.slice 93,1,24,[.slice none 0 0]⟩
 | 76=>⟨.struct [(0,3),(1,39),(2,3),(3,3),(4,37),(5,74)] none,6,96,[.int .i64 0,.slice none 0 0,.int .i64 0,.int .i64 0,.slice none 0 0,.slice none 0 0]⟩
 | 79=>⟨.int .i64,1,8,[.int .i64 0]⟩
 | 81=>⟨.struct [(0,79),(1,2),(2,9),(3,9),(4,3),(5,3)] (some [.i .i64,.i .i64,.str,.str,.i .i64,.i .i64]),6,64,[.int .i64 0,.int .i64 0,.string ByteArray.empty,.string ByteArray.empty,.int .i64 0,.int .i64 0]⟩
 | 85=>⟨.struct [(0,9),(1,69)] none,2,40,[.string ByteArray.empty,.slice none 0 0]⟩
 | 88=>⟨.slice 97,1,24,[.slice none 0 0]⟩
 | 89=>⟨.slice 39,1,24,[.slice none 0 0]⟩
 | 91=>⟨.struct [(0,88),(1,89)] none,2,48,[.slice none 0 0,.slice none 0 0]⟩
 | 93=>⟨.struct [(0,91),(2,3),(3,4)] none,4,64,[.slice none 0 0,.slice none 0 0,.int .i64 0,.bool false]⟩
 | 95=>⟨.int .i64,1,8,[.int .i64 0]⟩
 | 97=>⟨.struct [(0,95),(1,3),(2,3),(3,2),(4,3)] (some [.i .i64,.i .i64,.i .i64,.i .i64,.i .i64]),5,40,[.int .i64 0,.int .i64 0,.int .i64 0,.int .i64 0,.int .i64 0]⟩
 | 103=>⟨.struct [(0,52),(1,3),(2,3)] none,3,40,[.slice none 0 0,.int .i64 0,.int .i64 0]⟩
 | 106=>⟨.struct [(0,39),(1,39),(2,39)] none,3,72,[.slice none 0 0,.slice none 0 0,.slice none 0 0]⟩
 | 116=>⟨.mapS 171,1,8,[.map none]⟩
 | 118=>⟨.struct [(0,41),(16,116)] none,17,296,[.slice none 0 0,.slice none 0 0,.int .i64 0,.int .i64 0,.slice none 0 0,.int .i64 0,.string ByteArray.empty,.slice none 0 0,.slice none 0 0,.slice none 0 0,.slice none 0 0,.slice none 0 0,.slice none 0 0,.slice none 0 0,.bool false,.bool false,.map none]⟩
 | 121=>⟨.slice 192,1,24,[.slice none 0 0]⟩
 | 134=>⟨.func,1,8,[.nilFunc]⟩
 | 135=>⟨.slice 5,1,24,[.slice none 0 0]⟩
 | 142=>⟨.slice 37,1,24,[.slice none 0 0]⟩
 | 148=>⟨.struct [(0,4),(1,2)] (some [.b,.i .i64]),2,16,[.bool false,.int .i64 0]⟩
 | 153=>⟨.map,1,8,[.map none]⟩
 | 155=>⟨.mapI,1,8,[.map none]⟩
 | 158=>⟨.func,1,8,[.nilFunc]⟩
 | 162=>⟨.func,1,8,[.nilFunc]⟩
 | 171=>⟨.struct [(0,4),(1,3)] none,2,16,[.bool false,.int .i64 0]⟩
 | 182=>⟨.struct [(0,24),(1,91),(3,153)] none,4,80,[.slice none 0 0,.slice none 0 0,.slice none 0 0,.map none]⟩
 | 183=>⟨.slice 95,1,24,[.slice none 0 0]⟩
 | 186=>⟨.slice 189,1,24,[.slice none 0 0]⟩
 | 189=>⟨.struct [(0,3),(1,3),(2,45)] none,6,48,[.int .i64 0,.int .i64 0,.int .i64 0,.int .i64 0,.int .i64 0,.int .i64 0]⟩
 | 192=>⟨.struct [(0,28),(1,106),(4,3),(5,4),(6,3),(7,4)] none,8,128,[.slice none 0 0,.slice none 0 0,.slice none 0 0,.slice none 0 0,.int .i64 0,.bool false,.int .i64 0,.bool false]⟩
 | 202=>⟨.slice 148,1,24,[.slice none 0 0]⟩
 | 203=>⟨.arr 27 3,27,216,[.int .i64 0,.int .i64 0,.int .i64 0,.int .i64 0,.int .i64 0,.int .i64 0,.int .i64 0,.int .i64 0,.int .i64 0,.int .i64 0,.int .i64 0,.int .i64 0,.int .i64 0,.int .i64 0,.int .i64 0,.int .i64 0,.int .i64 0,.int .i64 0,.int .i64 0,.int .i64 0,.int .i64 0,.int .i64 0,.int .i64 0,.int .i64 0,.int .i64 0,.int .i64 0,.int .i64 0]⟩
 | 210=>⟨.struct [(0,24),(1,28),(2,39),(3,103)] none,6,112,[.slice none 0 0,.slice none 0 0,.slice none 0 0,.slice none 0 0,.int .i64 0,.int .i64 0]⟩
 | 226=>⟨.arr 5 42,5,40,[.int .i64 0,.int .i64 0,.int .i64 0,.int .i64 0,.int .i64 0]⟩
 | 235=>⟨.arr 3 148,6,48,[.bool false,.int .i64 0,.bool false,.int .i64 0,.bool false,.int .i64 0]⟩
 | 241=>⟨.arr 27 9,27,432,[.string ByteArray.empty,.string ByteArray.empty,.string ByteArray.empty,.string ByteArray.empty,.string ByteArray.empty,.string ByteArray.empty,.string ByteArray.empty,.string ByteArray.empty,.string ByteArray.empty,.string ByteArray.empty,.string ByteArray.empty,.string ByteArray.empty,.string ByteArray.empty,.string ByteArray.empty,.string ByteArray.empty,.string ByteArray.empty,.string ByteArray.empty,.string ByteArray.empty,.string ByteArray.empty,.string ByteArray.empty,.string ByteArray.empty,.string ByteArray.empty,.string ByteArray.empty,.string ByteArray.empty,.string ByteArray.empty,.string ByteArray.empty,.string ByteArray.empty]⟩
 | 249=>⟨.slice 2,1,24,[.slice none 0 0]⟩
 | 254=>⟨.arr 3 235,18,144,[.bool false,.int .i64 0,.bool false,.int .i64 0,.bool false,.int .i64 0,.bool false,.int .i64 0,.bool false,.int .i64 0,.bool false,.int .i64 0,.bool false,.int .i64 0,.bool false,.int .i64 0,.bool false,.int .i64 0]⟩
 | 256=>⟨.arr 2 3,2,16,[.int .i64 0,.int .i64 0]⟩
 | 265=>⟨.struct [(0,2),(1,2)] none,2,16,[.int .i64 0,.int .i64 0]⟩
 | _=>⟨.other,0,0,[]⟩
theorem tis:((((((ti 2=⟨.int .i64,1,8,[.int .i64 0]⟩∧ti 3=⟨.int .i64,1,8,[.int .i64 0]⟩)∧(ti 4=⟨.bool,1,1,[.bool false]⟩∧ti 5=⟨.int .u8,1,1,[.int .u8 0]⟩))∧((ti 9=⟨.str,1,16,[.string ByteArray.empty]⟩∧ti 21=⟨.int .i32,1,4,[.int .i32 0]⟩)∧(ti 22=⟨.slice 85,1,24,[.slice none 0 0]⟩∧(ti 24=⟨.struct [(0,22)] none,1,24,[.slice none 0 0]⟩∧ti 25=⟨.slice 71,1,24,[.slice none 0 0]⟩))))∧(((ti 26=⟨.int .i64,1,8,[.int .i64 0]⟩∧ti 27=⟨.int .i64,1,8,[.int .i64 0]⟩)∧(ti 28=⟨.slice 81,1,24,[.slice none 0 0]⟩∧ti 29=⟨.slice 28,1,24,[.slice none 0 0]⟩))∧((ti 31=⟨.struct [(0,25),(1,26),(2,27),(3,28),(4,2),(5,9),(6,29)] none,7,112,[.slice none 0 0,.int .i64 0,.int .i64 0,.slice none 0 0,.int .i64 0,.string ByteArray.empty,.slice none 0 0]⟩∧ti 35=⟨.slice 76,1,24,[.slice none 0 0]⟩)∧(ti 36=⟨.slice 73,1,24,[.slice none 0 0]⟩∧(ti 37=⟨.slice 91,1,24,[.slice none 0 0]⟩∧ti 38=⟨.slice 4,1,24,[.slice none 0 0]⟩)))))∧((((ti 39=⟨.slice 3,1,24,[.slice none 0 0]⟩∧ti 41=⟨.struct [(0,24),(1,31),(8,35),(9,36),(10,37),(11,38),(12,39),(13,37),(14,4),(15,4)] none,16,288,[.slice none 0 0,.slice none 0 0,.int .i64 0,.int .i64 0,.slice none 0 0,.int .i64 0,.string ByteArray.empty,.slice none 0 0,.slice none 0 0,.slice none 0 0,.slice none 0 0,.slice none 0 0,.slice none 0 0,.slice none 0 0,.bool false,.bool false]⟩)∧(ti 42=⟨.int .i64,1,8,[.int .i64 0]⟩∧ti 43=⟨.int .i64,1,8,[.int .i64 0]⟩))∧((ti 45=⟨.struct [(0,42),(1,43),(2,3),(3,3)] (some [.i .i64,.i .i64,.i .i64,.i .i64]),4,32,[.int .i64 0,.int .i64 0,.int .i64 0,.int .i64 0]⟩∧ti 52=⟨.slice 61,1,24,[.slice none 0 0]⟩)∧(ti 53=⟨.slice 61,1,24,[.slice none 0 0]⟩∧(ti 57=⟨.int .u64,1,8,[.int .u64 0]⟩∧ti 58=⟨.arr 8 2,8,64,[.int .i64 0,.int .i64 0,.int .i64 0,.int .i64 0,.int .i64 0,.int .i64 0,.int .i64 0,.int .i64 0]⟩))))∧(((ti 60=⟨.struct [(0,2),(1,57),(2,3),(3,58)] (some [.i .i64,.i .u64,.i .i64,.i .i64,.i .i64,.i .i64,.i .i64,.i .i64,.i .i64,.i .i64,.i .i64]),11,88,[.int .i64 0,.int .u64 0,.int .i64 0,.int .i64 0,.int .i64 0,.int .i64 0,.int .i64 0,.int .i64 0,.int .i64 0,.int .i64 0,.int .i64 0]⟩∧ti 61=⟨.slice 60,1,24,[.slice none 0 0]⟩)∧(ti 69=⟨.slice 9,1,24,[.slice none 0 0]⟩∧ti 71=⟨.struct [(0,4),(1,69),(2,9),(3,3),(4,3)] none,5,64,[.bool false,.slice none 0 0,.string ByteArray.empty,.int .i64 0,.int .i64 0]⟩))∧((ti 73=⟨.struct [(0,3),(1,39),(2,3),(3,3),(4,37),(5,37)] none,6,96,[.int .i64 0,.slice none 0 0,.int .i64 0,.int .i64 0,.slice none 0 0,.slice none 0 0]⟩∧ti 74=⟨.slice 93,1,24,[.slice none 0 0]⟩)∧(ti 76=⟨.struct [(0,3),(1,39),(2,3),(3,3),(4,37),(5,74)] none,6,96,[.int .i64 0,.slice none 0 0,.int .i64 0,.int .i64 0,.slice none 0 0,.slice none 0 0]⟩∧(ti 79=⟨.int .i64,1,8,[.int .i64 0]⟩∧ti 81=⟨.struct [(0,79),(1,2),(2,9),(3,9),(4,3),(5,3)] (some [.i .i64,.i .i64,.str,.str,.i .i64,.i .i64]),6,64,[.int .i64 0,.int .i64 0,.string ByteArray.empty,.string ByteArray.empty,.int .i64 0,.int .i64 0]⟩))))))∧(((((ti 85=⟨.struct [(0,9),(1,69)] none,2,40,[.string ByteArray.empty,.slice none 0 0]⟩∧ti 88=⟨.slice 97,1,24,[.slice none 0 0]⟩)∧(ti 89=⟨.slice 39,1,24,[.slice none 0 0]⟩∧ti 91=⟨.struct [(0,88),(1,89)] none,2,48,[.slice none 0 0,.slice none 0 0]⟩))∧((ti 93=⟨.struct [(0,91),(2,3),(3,4)] none,4,64,[.slice none 0 0,.slice none 0 0,.int .i64 0,.bool false]⟩∧ti 95=⟨.int .i64,1,8,[.int .i64 0]⟩)∧(ti 97=⟨.struct [(0,95),(1,3),(2,3),(3,2),(4,3)] (some [.i .i64,.i .i64,.i .i64,.i .i64,.i .i64]),5,40,[.int .i64 0,.int .i64 0,.int .i64 0,.int .i64 0,.int .i64 0]⟩∧(ti 103=⟨.struct [(0,52),(1,3),(2,3)] none,3,40,[.slice none 0 0,.int .i64 0,.int .i64 0]⟩∧ti 106=⟨.struct [(0,39),(1,39),(2,39)] none,3,72,[.slice none 0 0,.slice none 0 0,.slice none 0 0]⟩))))∧(((ti 116=⟨.mapS 171,1,8,[.map none]⟩∧ti 118=⟨.struct [(0,41),(16,116)] none,17,296,[.slice none 0 0,.slice none 0 0,.int .i64 0,.int .i64 0,.slice none 0 0,.int .i64 0,.string ByteArray.empty,.slice none 0 0,.slice none 0 0,.slice none 0 0,.slice none 0 0,.slice none 0 0,.slice none 0 0,.slice none 0 0,.bool false,.bool false,.map none]⟩)∧(ti 121=⟨.slice 192,1,24,[.slice none 0 0]⟩∧ti 134=⟨.func,1,8,[.nilFunc]⟩))∧((ti 135=⟨.slice 5,1,24,[.slice none 0 0]⟩∧ti 142=⟨.slice 37,1,24,[.slice none 0 0]⟩)∧(ti 148=⟨.struct [(0,4),(1,2)] (some [.b,.i .i64]),2,16,[.bool false,.int .i64 0]⟩∧(ti 153=⟨.map,1,8,[.map none]⟩∧ti 155=⟨.mapI,1,8,[.map none]⟩)))))∧((((ti 158=⟨.func,1,8,[.nilFunc]⟩∧ti 162=⟨.func,1,8,[.nilFunc]⟩)∧(ti 171=⟨.struct [(0,4),(1,3)] none,2,16,[.bool false,.int .i64 0]⟩∧ti 182=⟨.struct [(0,24),(1,91),(3,153)] none,4,80,[.slice none 0 0,.slice none 0 0,.slice none 0 0,.map none]⟩))∧((ti 183=⟨.slice 95,1,24,[.slice none 0 0]⟩∧ti 186=⟨.slice 189,1,24,[.slice none 0 0]⟩)∧(ti 189=⟨.struct [(0,3),(1,3),(2,45)] none,6,48,[.int .i64 0,.int .i64 0,.int .i64 0,.int .i64 0,.int .i64 0,.int .i64 0]⟩∧(ti 192=⟨.struct [(0,28),(1,106),(4,3),(5,4),(6,3),(7,4)] none,8,128,[.slice none 0 0,.slice none 0 0,.slice none 0 0,.slice none 0 0,.int .i64 0,.bool false,.int .i64 0,.bool false]⟩∧ti 202=⟨.slice 148,1,24,[.slice none 0 0]⟩))))∧(((ti 203=⟨.arr 27 3,27,216,[.int .i64 0,.int .i64 0,.int .i64 0,.int .i64 0,.int .i64 0,.int .i64 0,.int .i64 0,.int .i64 0,.int .i64 0,.int .i64 0,.int .i64 0,.int .i64 0,.int .i64 0,.int .i64 0,.int .i64 0,.int .i64 0,.int .i64 0,.int .i64 0,.int .i64 0,.int .i64 0,.int .i64 0,.int .i64 0,.int .i64 0,.int .i64 0,.int .i64 0,.int .i64 0,.int .i64 0]⟩∧ti 210=⟨.struct [(0,24),(1,28),(2,39),(3,103)] none,6,112,[.slice none 0 0,.slice none 0 0,.slice none 0 0,.slice none 0 0,.int .i64 0,.int .i64 0]⟩)∧(ti 226=⟨.arr 5 42,5,40,[.int .i64 0,.int .i64 0,.int .i64 0,.int .i64 0,.int .i64 0]⟩∧ti 235=⟨.arr 3 148,6,48,[.bool false,.int .i64 0,.bool false,.int .i64 0,.bool false,.int .i64 0]⟩))∧((ti 241=⟨.arr 27 9,27,432,[.string ByteArray.empty,.string ByteArray.empty,.string ByteArray.empty,.string ByteArray.empty,.string ByteArray.empty,.string ByteArray.empty,.string ByteArray.empty,.string ByteArray.empty,.string ByteArray.empty,.string ByteArray.empty,.string ByteArray.empty,.string ByteArray.empty,.string ByteArray.empty,.string ByteArray.empty,.string ByteArray.empty,.string ByteArray.empty,.string ByteArray.empty,.string ByteArray.empty,.string ByteArray.empty,.string ByteArray.empty,.string ByteArray.empty,.string ByteArray.empty,.string ByteArray.empty,.string ByteArray.empty,.string ByteArray.empty,.string ByteArray.empty,.string ByteArray.empty]⟩∧ti 249=⟨.slice 2,1,24,[.slice none 0 0]⟩)∧(ti 254=⟨.arr 3 235,18,144,[.bool false,.int .i64 0,.bool false,.int .i64 0,.bool false,.int .i64 0,.bool false,.int .i64 0,.bool false,.int .i64 0,.bool false,.int .i64 0,.bool false,.int .i64 0,.bool false,.int .i64 0,.bool false,.int .i64 0]⟩∧(ti 256=⟨.arr 2 3,2,16,[.int .i64 0,.int .i64 0]⟩∧ti 265=⟨.struct [(0,2),(1,2)] none,2,16,[.int .i64 0,.int .i64 0]⟩))))))):=⟨⟨⟨⟨⟨⟨rfl,rfl⟩,⟨rfl,rfl⟩⟩,⟨⟨rfl,rfl⟩,⟨rfl,⟨rfl,rfl⟩⟩⟩⟩,⟨⟨⟨rfl,rfl⟩,⟨rfl,rfl⟩⟩,⟨⟨rfl,rfl⟩,⟨rfl,⟨rfl,rfl⟩⟩⟩⟩⟩,⟨⟨⟨⟨rfl,rfl⟩,⟨rfl,rfl⟩⟩,⟨⟨rfl,rfl⟩,⟨rfl,⟨rfl,rfl⟩⟩⟩⟩,⟨⟨⟨rfl,rfl⟩,⟨rfl,rfl⟩⟩,⟨⟨rfl,rfl⟩,⟨rfl,⟨rfl,rfl⟩⟩⟩⟩⟩⟩,⟨⟨⟨⟨⟨rfl,rfl⟩,⟨rfl,rfl⟩⟩,⟨⟨rfl,rfl⟩,⟨rfl,⟨rfl,rfl⟩⟩⟩⟩,⟨⟨⟨rfl,rfl⟩,⟨rfl,rfl⟩⟩,⟨⟨rfl,rfl⟩,⟨rfl,⟨rfl,rfl⟩⟩⟩⟩⟩,⟨⟨⟨⟨rfl,rfl⟩,⟨rfl,rfl⟩⟩,⟨⟨rfl,rfl⟩,⟨rfl,⟨rfl,rfl⟩⟩⟩⟩,⟨⟨⟨rfl,rfl⟩,⟨rfl,rfl⟩⟩,⟨⟨rfl,rfl⟩,⟨rfl,⟨rfl,rfl⟩⟩⟩⟩⟩⟩⟩
def kwords:List ByteArray:=[⟨#[80,65,84,84,69,82,78]⟩,⟨#[83,69,81]⟩,⟨#[85,83,73,78,71]⟩,⟨#[65,78,89]⟩,⟨#[78,69,88,84]⟩,⟨#[83,84,82,73,67,84]⟩,⟨#[87,72,69,82,69]⟩,⟨#[87,73,84,72,73,78]⟩,⟨#[80,65,82,84,73,84,73,79,78]⟩,⟨#[66,89]⟩,⟨#[82,69,84,85,82,78]⟩,⟨#[65,78,68]⟩,⟨#[79,82]⟩,⟨#[78,79,84]⟩,⟨#[84,82,85,69]⟩,⟨#[70,65,76,83,69]⟩,⟨#[67,79,85,78,84]⟩,⟨#[83,85,77]⟩,⟨#[77,73,78]⟩,⟨#[77,65,88]⟩,⟨#[70,73,82,83,84]⟩,⟨#[76,65,83,84]⟩,⟨#[80,82,69,86]⟩,⟨#[65,70,84,69,82]⟩,⟨#[65,76,76]⟩,⟨#[80,65,83,84]⟩,⟨#[79,78,67,69]⟩]
def glob:Nat→Option (List Value)
 | 0=>some [.int .i64 (-1),.int .i64 0,.int .i64 0,.int .i64 0,.int .i64 0,.int .i64 0,.int .i64 0,.int .i64 0,.int .i64 0,.int .i64 0,.int .i64 1,.int .i64 1,.int .i64 2,.int .i64 2,.int .i64 2,.int .i64 2,.int .i64 2,.int .i64 2,.int .i64 2,.int .i64 2,.int .i64 2,.int .i64 2,.int .i64 2,.int .i64 2,.int .i64 2,.int .i64 1,.int .i64 1]
 | 1=>some [.bool false,.int .i64 0]
 | 2=>some [.bool true,.int .i64 1,.bool false,.int .i64 0,.bool true,.int .i64 0]
 | 3=>some (kwords.map .string)
 | 4=>some [.bool true,.int .i64 0,.bool true,.int .i64 0,.bool true,.int .i64 0,.bool true,.int .i64 0,.bool false,.int .i64 0,.bool false,.int .i64 0,.bool true,.int .i64 0,.bool false,.int .i64 0,.bool true,.int .i64 1]
 | 5=>some [.bool true,.int .i64 0,.bool false,.int .i64 0,.bool true,.int .i64 1,.bool false,.int .i64 0,.bool false,.int .i64 0,.bool true,.int .i64 1,.bool true,.int .i64 1,.bool true,.int .i64 1,.bool true,.int .i64 1]
 | 6=>some [.bool true,.int .i64 1]
 | 7=>some [.bool true,.int .i64 0]
 | _=>none
def globS (S:List Nat) (g:Nat):Option (List Value):=if g∈S then glob g else none
noncomputable def cx (S:List Nat) (pf:FuncId→Option (List AV→Heap→PRes)):Ctx:=⟨Tryz.prog,ti,globS S,pf,false⟩
theorem wJ {e:EK} {es:List EK} {la:List AV} (h:eksOk (e::es) la):∃a l,la=a::l∧e.ok a∧eksOk es l:=by
 cases la with
 | nil=>simp[eksOk]at h
 | cons a l=>simp only[eksOk]at h;exact⟨a,l,rfl,h.1,h.2⟩
theorem zKt {la:List AV} (h:eksOk [] la):la=[]:=h
theorem wI {ρ:Ren} {x:Value} {l:List AV} {ys:List Value} (h:VRs ρ (.v x::l) ys):∃r,ys=x::r∧VRs ρ l r:=by
 simp only[VRs,VR]at h;obtain⟨y,r,rfl,rfl,h2⟩:=h;exact⟨r,rfl,h2⟩
theorem zJ7 {ρ:Ren} {ys:List Value} (h:VRs ρ [] ys):ys=[]:=by simpa[VRs]using h
theorem ekI {k:IntKind} {a:AV} (h:(EK.i k).ok a):∃n,a=.v (.int k n):=by
 simp only[EK.ok]at h;unfold AV.isI at h;split at h
 ·subst h;exact⟨_,rfl⟩
 ·exact h.elim
theorem ekB {a:AV} (h:EK.b.ok a):∃n,a=.v (.bool n):=by
 simp only[EK.ok]at h;unfold AV.isB at h;split at h
 ·exact⟨_,rfl⟩
 ·exact h.elim
theorem ekS {a:AV} (h:EK.str.ok a):∃n,a=.v (.string n):=by
 simp only[EK.ok]at h;unfold AV.isStr at h;split at h
 ·exact⟨_,rfl⟩
 ·exact h.elim
section
variable (S:List Nat) (pf:FuncId→Option (List AV→Heap→PRes))
theorem zVh:(cx S pf).ti=ti:=rfl
theorem zZx:(cx S pf).G=globS S:=rfl
theorem zVi:(cx S pf).pf=pf:=rfl
theorem zVg:(cx S pf).two=false:=rfl
theorem yNe:(cx S pf).P=Tryz.prog:=rfl
end
theorem zId {P:Program} (w:World) (d:Nat) (t el:TypeId) (k:IntKind) (ht:P.underlying t=some (.array 8 el)) (he:P.underlying el=some (.int k)) (hs:∀w,(sizeOf el).run P w=.ok 1 w) (a0 a1 a2 a3 a4 a5 a6 a7 b0 b1 b2 b3 b4 b5 b6 b7:Int) :
  (Op.equalIn (d+2) t (.agg #[.int k a0,.int k a1,.int k a2,.int k a3,.int k a4,.int k a5,.int k a6,.int k a7]) (.agg #[.int k b0,.int k b1,.int k b2,.int k b3,.int k b4,.int k b5,.int k b6,.int k b7])).run P w =
   .ok (a0==b0&&(a1==b1&&(a2==b2&&(a3==b3&&(a4==b4&&(a5==b5&&(a6==b6&&a7==b7))))))) w:=by
 rw[Op.equalIn];simp[run_underlying ht,run_underlying he,hs,Std.Legacy.Range.forIn_eq_forIn_range',List.range',part,isAgg,run_equalIn_int w d el k k _ _ he]
 repeat' split
 all_goals simp_all
theorem zAt {P:Program} {t:TypeId} {n:Nat} (h:(P.info? t).map (·.size)=some n):∃j,P.info? t=some j∧j.size=n:=by
 cases e:P.info? t with
 | none=>simp[e]at h
 | some j=>exact⟨j,rfl,by simpa[e]using h⟩
theorem zYl {P:Program} {t:TypeId} {z:Value} (h:(P.info? t).map (·.zero)=some (some z)):∃j,P.info? t=some j∧j.zero=some z:=by
 cases e:P.info? t with
 | none=>simp[e]at h
 | some j=>exact⟨j,rfl,by simpa[e]using h⟩
theorem yM {X:Ctx} {t:TypeId} {z:Value} (hi:(X.P.info? t).map (fun i=>(i.zero,i.size,i.bytes))=some (some z,(X.ti t).size,(X.ti t).bytes)) (hz:z.cells.toList=(X.ti t).zero) (hl:(X.ti t).zero.length=(X.ti t).size)
  (ho:(X.ti t).zero.all (·.oneCell')=true) (hd:xI X t):TyOk X t where
 info:=by
  cases e:X.P.info? t with
  | none=>simp[e]at hi
  | some j =>
   simp only[e,zK,Option.some.injEq,Prod.mk.injEq]at hi;exact⟨j,z,rfl,hi.2.1,hi.2.2,hi.1,hz⟩
 zlen:=hl
 zone:=fun x hx=>zR.1 ho x hx
 desc:=hd
section
variable (S:List Nat) (pf:FuncId→Option (List AV→Heap→PRes))
theorem ty2:TyOk (cx S pf) 2:=yM (z:=.int .i64 0) (by kernel_rfl) rfl rfl rfl Tryz.underlying2
theorem ty3:TyOk (cx S pf) 3:=yM (z:=.int .i64 0) (by kernel_rfl) rfl rfl rfl Tryz.underlying3
theorem ty4:TyOk (cx S pf) 4:=yM (z:=.bool false) (by kernel_rfl) rfl rfl rfl Tryz.underlying4
theorem ty5:TyOk (cx S pf) 5:=yM (z:=.int .u8 0) (by kernel_rfl) rfl rfl rfl Tryz.underlying5
theorem ty9:TyOk (cx S pf) 9:=yM (z:=.string ByteArray.empty) (by kernel_rfl) rfl rfl rfl Tryz.underlying9
theorem yOs:TyOk (cx S pf) 21:=yM (z:=.int .i32 0) (by kernel_rfl) rfl rfl rfl Tryz.underlying21
theorem yOr:TyOk (cx S pf) 22:=yM (z:=.slice none 0 0) (by kernel_rfl) rfl rfl rfl Tryz.underlying22
theorem yOq:TyOk (cx S pf) 24:=yM (z:=.agg #[.slice none 0 0]) (by kernel_rfl) rfl rfl rfl ⟨⟨_,Tryz.underlying24,rfl,fun f hf=>by
 simp only[yD,yA,or_false]at hf;rcases hf with rfl<;>exact zAt (by kernel_rfl)⟩,fun eks h=>by cases h⟩
theorem yOp:TyOk (cx S pf) 25:=yM (z:=.slice none 0 0) (by kernel_rfl) rfl rfl rfl Tryz.underlying25
theorem yOo:TyOk (cx S pf) 26:=yM (z:=.int .i64 0) (by kernel_rfl) rfl rfl rfl Tryz.underlying26
theorem yOn:TyOk (cx S pf) 27:=yM (z:=.int .i64 0) (by kernel_rfl) rfl rfl rfl Tryz.underlying27
theorem yOm:TyOk (cx S pf) 28:=yM (z:=.slice none 0 0) (by kernel_rfl) rfl rfl rfl Tryz.underlying28
theorem yOl:TyOk (cx S pf) 29:=yM (z:=.slice none 0 0) (by kernel_rfl) rfl rfl rfl Tryz.underlying29
theorem yOk:TyOk (cx S pf) 31:=yM (z:=.agg #[.slice none 0 0,.int .i64 0,.int .i64 0,.slice none 0 0,.int .i64 0,.string ByteArray.empty,.slice none 0 0]) (by kernel_rfl) rfl rfl rfl ⟨⟨_,Tryz.underlying31,rfl,fun f hf=>by
 simp only[yD,yA,or_false]at hf;rcases hf with rfl|rfl|rfl|rfl|rfl|rfl|rfl<;>exact zAt (by kernel_rfl)⟩,fun eks h=>by cases h⟩
theorem yOj:TyOk (cx S pf) 35:=yM (z:=.slice none 0 0) (by kernel_rfl) rfl rfl rfl Tryz.underlying35
theorem yOi:TyOk (cx S pf) 36:=yM (z:=.slice none 0 0) (by kernel_rfl) rfl rfl rfl Tryz.underlying36
theorem yOh:TyOk (cx S pf) 37:=yM (z:=.slice none 0 0) (by kernel_rfl) rfl rfl rfl Tryz.underlying37
theorem yOg:TyOk (cx S pf) 38:=yM (z:=.slice none 0 0) (by kernel_rfl) rfl rfl rfl Tryz.underlying38
theorem yOf:TyOk (cx S pf) 39:=yM (z:=.slice none 0 0) (by kernel_rfl) rfl rfl rfl Tryz.underlying39
theorem yOe:TyOk (cx S pf) 41:=yM (z:=.agg #[.slice none 0 0,.slice none 0 0,.int .i64 0,.int .i64 0,.slice none 0 0,.int .i64 0,.string ByteArray.empty,.slice none 0 0,.slice none 0 0,.slice none 0 0,.slice none 0 0,.slice none 0 0,.slice none 0 0,.slice none 0 0,.bool false,.bool false]) (by kernel_rfl) rfl rfl rfl ⟨⟨_,Tryz.underlying41,rfl,fun f hf=>by
 simp only[yD,yA,or_false]at hf;rcases hf with rfl|rfl|rfl|rfl|rfl|rfl|rfl|rfl|rfl|rfl<;>exact zAt (by kernel_rfl)⟩,fun eks h=>by cases h⟩
theorem yOd:TyOk (cx S pf) 42:=yM (z:=.int .i64 0) (by kernel_rfl) rfl rfl rfl Tryz.underlying42
theorem yOc:TyOk (cx S pf) 43:=yM (z:=.int .i64 0) (by kernel_rfl) rfl rfl rfl Tryz.underlying43
theorem yEa:∀(ρ:Ren) (la:List AV) (xs:List Value),eksOk [.i .i64,.i .i64,.i .i64,.i .i64] la→VRs ρ la xs→∃(x0:Int),∃(x1:Int),∃(x2:Int),∃(x3:Int),la=[.v (.int .i64 x0),.v (.int .i64 x1),.v (.int .i64 x2),.v (.int .i64 x3)]∧xs=[.int .i64 x0,.int .i64 x1,.int .i64 x2,.int .i64 x3]:=by
 intro ρ la xs h hv;obtain⟨a0,la0,rfl,h0,g0⟩:=wJ h;obtain⟨x0,rfl⟩:=ekI h0;obtain⟨xs0,rfl,v0⟩:=wI hv;obtain⟨a1,la1,rfl,h1,g1⟩:=wJ g0;obtain⟨x1,rfl⟩:=ekI h1;obtain⟨xs1,rfl,v1⟩:=wI v0;obtain⟨a2,la2,rfl,h2,g2⟩:=wJ g1;obtain⟨x2,rfl⟩:=ekI h2;obtain⟨xs2,rfl,v2⟩:=wI v1;obtain⟨a3,la3,rfl,h3,g3⟩:=wJ g2;obtain⟨x3,rfl⟩:=ekI h3;obtain⟨xs3,rfl,v3⟩:=wI v2;obtain rfl:=zKt g3;obtain rfl:=zJ7 v3;exact⟨x0,x1,x2,x3,rfl,rfl⟩
theorem yJz (w:World) (x0:Int) (x1:Int) (x2:Int) (x3:Int) (y0:Int) (y1:Int) (y2:Int) (y3:Int):(Op.equal 45 (.agg [.int .i64 x0,.int .i64 x1,.int .i64 x2,.int .i64 x3].toArray) (.agg [.int .i64 y0,.int .i64 y1,.int .i64 y2,.int .i64 y3].toArray)).run Tryz.prog w=.ok (eksEq [.i .i64,.i .i64,.i .i64,.i .i64] [.v (.int .i64 x0),.v (.int .i64 x1),.v (.int .i64 x2),.v (.int .i64 x3)] [.v (.int .i64 y0),.v (.int .i64 y1),.v (.int .i64 y2),.v (.int .i64 y3)]) w:=by
 have hf:∀t,t∈([45]:List TypeId)→Tryz.prog.stoodInHeld t=false:=fun t ht=>by
  have:([45]:List TypeId).all (fun t=>Tryz.prog.stoodInHeld t==false)=true:=by kernel_rfl
  simpa using zR.1 this t ht
 unfold Op.equal Op.maxDepth;rw[run_equalIn_struct w 9999 45 _ _ (by kernel_rfl) (hf 45 (by simp))]
 have hfs : (Tryz.prog.fieldsOf 45).toList = [{ name := "Code", type := 42, offset := 0, embedded := false, tag := "", pkgPath := "", byteOffset := 0 }, { name := "Part", type := 43, offset := 1, embedded := false, tag := "", pkgPath := "", byteOffset := 8 }, { name := "Index", type := 3, offset := 2, embedded := false, tag := "", pkgPath := "", byteOffset := 16 }, { name := "Sub", type := 3, offset := 3, embedded := false, tag := "", pkgPath := "", byteOffset := 24 }] := by kernel_rfl
 rw[hfs];simp[Op.eqFields,part,isAgg,run_underlying Tryz.underlying3,run_underlying Tryz.underlying42,run_underlying Tryz.underlying43,run_equalIn_int,eksEq,EK.eq,AV.i]
 repeat' split
 all_goals simp_all
theorem yO7:EqOk (cx S pf) 45 [.i .i64,.i .i64,.i .i64,.i .i64]:=by
 refine⟨by kernel_rfl,fun ρ w la lb xs ys h1 h2 h3 h4 => ?_⟩
 obtain⟨x0,x1,x2,x3,rfl,rfl⟩:=yEa ρ la xs h1 h3;obtain⟨y0,y1,y2,y3,rfl,rfl⟩:=yEa ρ lb ys h2 h4;exact yJz w x0 x1 x2 x3 y0 y1 y2 y3
theorem yOb:TyOk (cx S pf) 45:=yM (z:=.agg #[.int .i64 0,.int .i64 0,.int .i64 0,.int .i64 0]) (by kernel_rfl) rfl rfl rfl ⟨⟨_,Tryz.underlying45,rfl,fun f hf=>by
 simp only[yD,yA,or_false]at hf;rcases hf with rfl|rfl|rfl|rfl<;>exact zAt (by kernel_rfl)⟩,fun eks h=>by cases h;exact yO7 S pf⟩
theorem yOa:TyOk (cx S pf) 52:=yM (z:=.slice none 0 0) (by kernel_rfl) rfl rfl rfl Tryz.underlying52
theorem yN9:TyOk (cx S pf) 53:=yM (z:=.slice none 0 0) (by kernel_rfl) rfl rfl rfl Tryz.underlying53
theorem yN8:TyOk (cx S pf) 57:=yM (z:=.int .u64 0) (by kernel_rfl) rfl rfl rfl Tryz.underlying57
theorem yN7:TyOk (cx S pf) 58:=yM (z:=.agg #[.int .i64 0,.int .i64 0,.int .i64 0,.int .i64 0,.int .i64 0,.int .i64 0,.int .i64 0,.int .i64 0]) (by kernel_rfl) rfl rfl rfl ⟨Tryz.underlying58,zAt (by kernel_rfl)⟩
theorem yD9:∀(ρ:Ren) (la:List AV) (xs:List Value),eksOk [.i .i64,.i .u64,.i .i64,.i .i64,.i .i64,.i .i64,.i .i64,.i .i64,.i .i64,.i .i64,.i .i64] la→VRs ρ la xs→∃(x0:Int),∃(x1:Int),∃(x2:Int),∃(x3:Int),∃(x4:Int),∃(x5:Int),∃(x6:Int),∃(x7:Int),∃(x8:Int),∃(x9:Int),∃(x10:Int),la=[.v (.int .i64 x0),.v (.int .u64 x1),.v (.int .i64 x2),.v (.int .i64 x3),.v (.int .i64 x4),.v (.int .i64 x5),.v (.int .i64 x6),.v (.int .i64 x7),.v (.int .i64 x8),.v (.int .i64 x9),.v (.int .i64 x10)]∧xs=[.int .i64 x0,.int .u64 x1,.int .i64 x2,.int .i64 x3,.int .i64 x4,.int .i64 x5,.int .i64 x6,.int .i64 x7,.int .i64 x8,.int .i64 x9,.int .i64 x10]:=by
 intro ρ la xs h hv;obtain⟨a0,la0,rfl,h0,g0⟩:=wJ h;obtain⟨x0,rfl⟩:=ekI h0;obtain⟨xs0,rfl,v0⟩:=wI hv;obtain⟨a1,la1,rfl,h1,g1⟩:=wJ g0;obtain⟨x1,rfl⟩:=ekI h1;obtain⟨xs1,rfl,v1⟩:=wI v0;obtain⟨a2,la2,rfl,h2,g2⟩:=wJ g1;obtain⟨x2,rfl⟩:=ekI h2;obtain⟨xs2,rfl,v2⟩:=wI v1;obtain⟨a3,la3,rfl,h3,g3⟩:=wJ g2;obtain⟨x3,rfl⟩:=ekI h3;obtain⟨xs3,rfl,v3⟩:=wI v2;obtain⟨a4,la4,rfl,h4,g4⟩:=wJ g3;obtain⟨x4,rfl⟩:=ekI h4;obtain⟨xs4,rfl,v4⟩:=wI v3;obtain⟨a5,la5,rfl,h5,g5⟩:=wJ g4;obtain⟨x5,rfl⟩:=ekI h5;obtain⟨xs5,rfl,v5⟩:=wI v4;obtain⟨a6,la6,rfl,h6,g6⟩:=wJ g5;obtain⟨x6,rfl⟩:=ekI h6;obtain⟨xs6,rfl,v6⟩:=wI v5;obtain⟨a7,la7,rfl,h7,g7⟩:=wJ g6;obtain⟨x7,rfl⟩:=ekI h7;obtain⟨xs7,rfl,v7⟩:=wI v6;obtain⟨a8,la8,rfl,h8,g8⟩:=wJ g7;obtain⟨x8,rfl⟩:=ekI h8;obtain⟨xs8,rfl,v8⟩:=wI v7;obtain⟨a9,la9,rfl,h9,g9⟩:=wJ g8;obtain⟨x9,rfl⟩:=ekI h9;obtain⟨xs9,rfl,v9⟩:=wI v8;obtain⟨a10,la10,rfl,h10,g10⟩:=wJ g9;obtain⟨x10,rfl⟩:=ekI h10
 obtain⟨xs10,rfl,v10⟩:=wI v9;obtain rfl:=zKt g10;obtain rfl:=zJ7 v10;exact⟨x0,x1,x2,x3,x4,x5,x6,x7,x8,x9,x10,rfl,rfl⟩
theorem yJy (w:World) (x0:Int) (x1:Int) (x2:Int) (x3:Int) (x4:Int) (x5:Int) (x6:Int) (x7:Int) (x8:Int) (x9:Int) (x10:Int) (y0:Int) (y1:Int) (y2:Int) (y3:Int) (y4:Int) (y5:Int) (y6:Int) (y7:Int) (y8:Int) (y9:Int) (y10:Int):(Op.equal 60 (.agg [.int .i64 x0,.int .u64 x1,.int .i64 x2,.int .i64 x3,.int .i64 x4,.int .i64 x5,.int .i64 x6,.int .i64 x7,.int .i64 x8,.int .i64 x9,.int .i64 x10].toArray) (.agg [.int .i64 y0,.int .u64 y1,.int .i64 y2,.int .i64 y3,.int .i64 y4,.int .i64 y5,.int .i64 y6,.int .i64 y7,.int .i64 y8,.int .i64 y9,.int .i64 y10].toArray)).run Tryz.prog w=.ok (eksEq [.i .i64,.i .u64,.i .i64,.i .i64,.i .i64,.i .i64,.i .i64,.i .i64,.i .i64,.i .i64,.i .i64] [.v (.int .i64 x0),.v (.int .u64 x1),.v (.int .i64 x2),.v (.int .i64 x3),.v (.int .i64 x4),.v (.int .i64 x5),.v (.int .i64 x6),.v (.int .i64 x7),.v (.int .i64 x8),.v (.int .i64 x9),.v (.int .i64 x10)] [.v (.int .i64 y0),.v (.int .u64 y1),.v (.int .i64 y2),.v (.int .i64 y3),.v (.int .i64 y4),.v (.int .i64 y5),.v (.int .i64 y6),.v (.int .i64 y7),.v (.int .i64 y8),.v (.int .i64 y9),.v (.int .i64 y10)]) w:=by
 have hf:∀t,t∈([60]:List TypeId)→Tryz.prog.stoodInHeld t=false:=fun t ht=>by
  have:([60]:List TypeId).all (fun t=>Tryz.prog.stoodInHeld t==false)=true:=by kernel_rfl
  simpa using zR.1 this t ht
 unfold Op.equal Op.maxDepth;rw[run_equalIn_struct w 9999 60 _ _ (by kernel_rfl) (hf 60 (by simp))]
 have hfs : (Tryz.prog.fieldsOf 60).toList = [{ name := "Ts", type := 2, offset := 0, embedded := false, tag := "", pkgPath := "", byteOffset := 0 }, { name := "Id", type := 57, offset := 1, embedded := false, tag := "", pkgPath := "", byteOffset := 8 }, { name := "Type", type := 3, offset := 2, embedded := false, tag := "", pkgPath := "", byteOffset := 16 }, { name := "Attrs", type := 58, offset := 3, embedded := false, tag := "", pkgPath := "", byteOffset := 24 }] := by kernel_rfl
 rw[hfs];have hz58:∀w,(sizeOf 58).run Tryz.prog w=.ok 8 w:=fun w=>by
  obtain⟨j,h1,h2⟩:=zAt (P:=Tryz.prog) (t:=58) (n:=8) (by kernel_rfl)
  exact (zAu (X:=cx [] fun _=>none) h1).trans (by rw[h2])
 have hz2:∀w,(sizeOf 2).run Tryz.prog w=.ok 1 w:=fun w=>by
  obtain⟨j,h1,h2⟩:=zAt (P:=Tryz.prog) (t:=2) (n:=1) (by kernel_rfl)
  exact (zAu (X:=cx [] fun _=>none) h1).trans (by rw[h2])
 simp[Op.eqFields,part,isAgg,hz58,zId _ _ _ _ _ Tryz.underlying58 Tryz.underlying2 hz2,run_underlying Tryz.underlying2,run_underlying Tryz.underlying3,run_underlying Tryz.underlying57,run_underlying Tryz.underlying58,run_equalIn_int,eksEq,EK.eq,AV.i]
 repeat' split
 all_goals simp_all
theorem yO6:EqOk (cx S pf) 60 [.i .i64,.i .u64,.i .i64,.i .i64,.i .i64,.i .i64,.i .i64,.i .i64,.i .i64,.i .i64,.i .i64]:=by
 refine⟨by kernel_rfl,fun ρ w la lb xs ys h1 h2 h3 h4 => ?_⟩
 obtain⟨x0,x1,x2,x3,x4,x5,x6,x7,x8,x9,x10,rfl,rfl⟩:=yD9 ρ la xs h1 h3;obtain⟨y0,y1,y2,y3,y4,y5,y6,y7,y8,y9,y10,rfl,rfl⟩:=yD9 ρ lb ys h2 h4;exact yJy w x0 x1 x2 x3 x4 x5 x6 x7 x8 x9 x10 y0 y1 y2 y3 y4 y5 y6 y7 y8 y9 y10
theorem yN6:TyOk (cx S pf) 60:=yM (z:=.agg #[.int .i64 0,.int .u64 0,.int .i64 0,.int .i64 0,.int .i64 0,.int .i64 0,.int .i64 0,.int .i64 0,.int .i64 0,.int .i64 0,.int .i64 0]) (by kernel_rfl) rfl rfl rfl ⟨⟨_,Tryz.underlying60,rfl,fun f hf=>by
 simp only[yD,yA,or_false]at hf;rcases hf with rfl|rfl|rfl|rfl<;>exact zAt (by kernel_rfl)⟩,fun eks h=>by cases h;exact yO6 S pf⟩
theorem yN5:TyOk (cx S pf) 61:=yM (z:=.slice none 0 0) (by kernel_rfl) rfl rfl rfl Tryz.underlying61
theorem yN4:TyOk (cx S pf) 69:=yM (z:=.slice none 0 0) (by kernel_rfl) rfl rfl rfl Tryz.underlying69
theorem yN3:TyOk (cx S pf) 71:=yM (z:=.agg #[.bool false,.slice none 0 0,.string ByteArray.empty,.int .i64 0,.int .i64 0]) (by kernel_rfl) rfl rfl rfl ⟨⟨_,Tryz.underlying71,rfl,fun f hf=>by
 simp only[yD,yA,or_false]at hf;rcases hf with rfl|rfl|rfl|rfl|rfl<;>exact zAt (by kernel_rfl)⟩,fun eks h=>by cases h⟩
theorem yN2:TyOk (cx S pf) 73:=yM (z:=.agg #[.int .i64 0,.slice none 0 0,.int .i64 0,.int .i64 0,.slice none 0 0,.slice none 0 0]) (by kernel_rfl) rfl rfl rfl ⟨⟨_,Tryz.underlying73,rfl,fun f hf=>by
 simp only[yD,yA,or_false]at hf;rcases hf with rfl|rfl|rfl|rfl|rfl|rfl<;>exact zAt (by kernel_rfl)⟩,fun eks h=>by cases h⟩
theorem yN1:TyOk (cx S pf) 74:=yM (z:=.slice none 0 0) (by kernel_rfl) rfl rfl rfl Tryz.underlying74
theorem yN0:TyOk (cx S pf) 76:=yM (z:=.agg #[.int .i64 0,.slice none 0 0,.int .i64 0,.int .i64 0,.slice none 0 0,.slice none 0 0]) (by kernel_rfl) rfl rfl rfl ⟨⟨_,Tryz.underlying76,rfl,fun f hf=>by
 simp only[yD,yA,or_false]at hf;rcases hf with rfl|rfl|rfl|rfl|rfl|rfl<;>exact zAt (by kernel_rfl)⟩,fun eks h=>by cases h⟩
theorem yNz:TyOk (cx S pf) 79:=yM (z:=.int .i64 0) (by kernel_rfl) rfl rfl rfl Tryz.underlying79
theorem yD8:∀(ρ:Ren) (la:List AV) (xs:List Value),eksOk [.i .i64,.i .i64,.str,.str,.i .i64,.i .i64] la→VRs ρ la xs→∃(x0:Int),∃(x1:Int),∃(x2:ByteArray),∃(x3:ByteArray),∃(x4:Int),∃(x5:Int),la=[.v (.int .i64 x0),.v (.int .i64 x1),.v (.string x2),.v (.string x3),.v (.int .i64 x4),.v (.int .i64 x5)]∧xs=[.int .i64 x0,.int .i64 x1,.string x2,.string x3,.int .i64 x4,.int .i64 x5]:=by
 intro ρ la xs h hv;obtain⟨a0,la0,rfl,h0,g0⟩:=wJ h;obtain⟨x0,rfl⟩:=ekI h0;obtain⟨xs0,rfl,v0⟩:=wI hv;obtain⟨a1,la1,rfl,h1,g1⟩:=wJ g0;obtain⟨x1,rfl⟩:=ekI h1;obtain⟨xs1,rfl,v1⟩:=wI v0;obtain⟨a2,la2,rfl,h2,g2⟩:=wJ g1;obtain⟨x2,rfl⟩:=ekS h2;obtain⟨xs2,rfl,v2⟩:=wI v1;obtain⟨a3,la3,rfl,h3,g3⟩:=wJ g2;obtain⟨x3,rfl⟩:=ekS h3;obtain⟨xs3,rfl,v3⟩:=wI v2;obtain⟨a4,la4,rfl,h4,g4⟩:=wJ g3;obtain⟨x4,rfl⟩:=ekI h4;obtain⟨xs4,rfl,v4⟩:=wI v3;obtain⟨a5,la5,rfl,h5,g5⟩:=wJ g4;obtain⟨x5,rfl⟩:=ekI h5;obtain⟨xs5,rfl,v5⟩:=wI v4;obtain rfl:=zKt g5;obtain rfl:=zJ7 v5;exact⟨x0,x1,x2,x3,x4,x5,rfl,rfl⟩
theorem yJx (w:World) (x0:Int) (x1:Int) (x2:ByteArray) (x3:ByteArray) (x4:Int) (x5:Int) (y0:Int) (y1:Int) (y2:ByteArray) (y3:ByteArray) (y4:Int) (y5:Int):(Op.equal 81 (.agg [.int .i64 x0,.int .i64 x1,.string x2,.string x3,.int .i64 x4,.int .i64 x5].toArray) (.agg [.int .i64 y0,.int .i64 y1,.string y2,.string y3,.int .i64 y4,.int .i64 y5].toArray)).run Tryz.prog w=.ok (eksEq [.i .i64,.i .i64,.str,.str,.i .i64,.i .i64] [.v (.int .i64 x0),.v (.int .i64 x1),.v (.string x2),.v (.string x3),.v (.int .i64 x4),.v (.int .i64 x5)] [.v (.int .i64 y0),.v (.int .i64 y1),.v (.string y2),.v (.string y3),.v (.int .i64 y4),.v (.int .i64 y5)]) w:=by
 have hf:∀t,t∈([81]:List TypeId)→Tryz.prog.stoodInHeld t=false:=fun t ht=>by
  have:([81]:List TypeId).all (fun t=>Tryz.prog.stoodInHeld t==false)=true:=by kernel_rfl
  simpa using zR.1 this t ht
 unfold Op.equal Op.maxDepth;rw[run_equalIn_struct w 9999 81 _ _ (by kernel_rfl) (hf 81 (by simp))]
 have hfs : (Tryz.prog.fieldsOf 81).toList = [{ name := "Op", type := 79, offset := 0, embedded := false, tag := "", pkgPath := "", byteOffset := 0 }, { name := "N", type := 2, offset := 1, embedded := false, tag := "", pkgPath := "", byteOffset := 8 }, { name := "Var", type := 9, offset := 2, embedded := false, tag := "", pkgPath := "", byteOffset := 16 }, { name := "Attr", type := 9, offset := 3, embedded := false, tag := "", pkgPath := "", byteOffset := 32 }, { name := "A", type := 3, offset := 4, embedded := false, tag := "", pkgPath := "", byteOffset := 48 }, { name := "B", type := 3, offset := 5, embedded := false, tag := "", pkgPath := "", byteOffset := 56 }] := by kernel_rfl
 rw[hfs];simp[Op.eqFields,part,isAgg,run_underlying Tryz.underlying2,run_underlying Tryz.underlying3,run_underlying Tryz.underlying9,run_underlying Tryz.underlying79,run_equalIn_int,run_equalIn_string,eksEq,EK.eq,AV.i,AV.str,beq_toListBytes]
 repeat' split
 all_goals simp_all
theorem yO5:EqOk (cx S pf) 81 [.i .i64,.i .i64,.str,.str,.i .i64,.i .i64]:=by
 refine⟨by kernel_rfl,fun ρ w la lb xs ys h1 h2 h3 h4 => ?_⟩
 obtain⟨x0,x1,x2,x3,x4,x5,rfl,rfl⟩:=yD8 ρ la xs h1 h3;obtain⟨y0,y1,y2,y3,y4,y5,rfl,rfl⟩:=yD8 ρ lb ys h2 h4;exact yJx w x0 x1 x2 x3 x4 x5 y0 y1 y2 y3 y4 y5
theorem yNy:TyOk (cx S pf) 81:=yM (z:=.agg #[.int .i64 0,.int .i64 0,.string ByteArray.empty,.string ByteArray.empty,.int .i64 0,.int .i64 0]) (by kernel_rfl) rfl rfl rfl ⟨⟨_,Tryz.underlying81,rfl,fun f hf=>by
 simp only[yD,yA,or_false]at hf;rcases hf with rfl|rfl|rfl|rfl|rfl|rfl<;>exact zAt (by kernel_rfl)⟩,fun eks h=>by cases h;exact yO5 S pf⟩
theorem yNx:TyOk (cx S pf) 85:=yM (z:=.agg #[.string ByteArray.empty,.slice none 0 0]) (by kernel_rfl) rfl rfl rfl ⟨⟨_,Tryz.underlying85,rfl,fun f hf=>by
 simp only[yD,yA,or_false]at hf;rcases hf with rfl|rfl<;>exact zAt (by kernel_rfl)⟩,fun eks h=>by cases h⟩
theorem yNw:TyOk (cx S pf) 88:=yM (z:=.slice none 0 0) (by kernel_rfl) rfl rfl rfl Tryz.underlying88
theorem yNv:TyOk (cx S pf) 89:=yM (z:=.slice none 0 0) (by kernel_rfl) rfl rfl rfl Tryz.underlying89
theorem yNu:TyOk (cx S pf) 91:=yM (z:=.agg #[.slice none 0 0,.slice none 0 0]) (by kernel_rfl) rfl rfl rfl ⟨⟨_,Tryz.underlying91,rfl,fun f hf=>by
 simp only[yD,yA,or_false]at hf;rcases hf with rfl|rfl<;>exact zAt (by kernel_rfl)⟩,fun eks h=>by cases h⟩
theorem yNt:TyOk (cx S pf) 93:=yM (z:=.agg #[.slice none 0 0,.slice none 0 0,.int .i64 0,.bool false]) (by kernel_rfl) rfl rfl rfl ⟨⟨_,Tryz.underlying93,rfl,fun f hf=>by
 simp only[yD,yA,or_false]at hf;rcases hf with rfl|rfl|rfl<;>exact zAt (by kernel_rfl)⟩,fun eks h=>by cases h⟩
theorem yNs:TyOk (cx S pf) 95:=yM (z:=.int .i64 0) (by kernel_rfl) rfl rfl rfl Tryz.underlying95
theorem yD7:∀(ρ:Ren) (la:List AV) (xs:List Value),eksOk [.i .i64,.i .i64,.i .i64,.i .i64,.i .i64] la→VRs ρ la xs→∃(x0:Int),∃(x1:Int),∃(x2:Int),∃(x3:Int),∃(x4:Int),la=[.v (.int .i64 x0),.v (.int .i64 x1),.v (.int .i64 x2),.v (.int .i64 x3),.v (.int .i64 x4)]∧xs=[.int .i64 x0,.int .i64 x1,.int .i64 x2,.int .i64 x3,.int .i64 x4]:=by
 intro ρ la xs h hv;obtain⟨a0,la0,rfl,h0,g0⟩:=wJ h;obtain⟨x0,rfl⟩:=ekI h0;obtain⟨xs0,rfl,v0⟩:=wI hv;obtain⟨a1,la1,rfl,h1,g1⟩:=wJ g0;obtain⟨x1,rfl⟩:=ekI h1;obtain⟨xs1,rfl,v1⟩:=wI v0;obtain⟨a2,la2,rfl,h2,g2⟩:=wJ g1;obtain⟨x2,rfl⟩:=ekI h2;obtain⟨xs2,rfl,v2⟩:=wI v1;obtain⟨a3,la3,rfl,h3,g3⟩:=wJ g2;obtain⟨x3,rfl⟩:=ekI h3;obtain⟨xs3,rfl,v3⟩:=wI v2;obtain⟨a4,la4,rfl,h4,g4⟩:=wJ g3;obtain⟨x4,rfl⟩:=ekI h4;obtain⟨xs4,rfl,v4⟩:=wI v3;obtain rfl:=zKt g4;obtain rfl:=zJ7 v4;exact⟨x0,x1,x2,x3,x4,rfl,rfl⟩
theorem yJw (w:World) (x0:Int) (x1:Int) (x2:Int) (x3:Int) (x4:Int) (y0:Int) (y1:Int) (y2:Int) (y3:Int) (y4:Int):(Op.equal 97 (.agg [.int .i64 x0,.int .i64 x1,.int .i64 x2,.int .i64 x3,.int .i64 x4].toArray) (.agg [.int .i64 y0,.int .i64 y1,.int .i64 y2,.int .i64 y3,.int .i64 y4].toArray)).run Tryz.prog w=.ok (eksEq [.i .i64,.i .i64,.i .i64,.i .i64,.i .i64] [.v (.int .i64 x0),.v (.int .i64 x1),.v (.int .i64 x2),.v (.int .i64 x3),.v (.int .i64 x4)] [.v (.int .i64 y0),.v (.int .i64 y1),.v (.int .i64 y2),.v (.int .i64 y3),.v (.int .i64 y4)]) w:=by
 have hf:∀t,t∈([97]:List TypeId)→Tryz.prog.stoodInHeld t=false:=fun t ht=>by
  have:([97]:List TypeId).all (fun t=>Tryz.prog.stoodInHeld t==false)=true:=by kernel_rfl
  simpa using zR.1 this t ht
 unfold Op.equal Op.maxDepth;rw[run_equalIn_struct w 9999 97 _ _ (by kernel_rfl) (hf 97 (by simp))]
 have hfs : (Tryz.prog.fieldsOf 97).toList = [{ name := "Code", type := 95, offset := 0, embedded := false, tag := "", pkgPath := "", byteOffset := 0 }, { name := "Item", type := 3, offset := 1, embedded := false, tag := "", pkgPath := "", byteOffset := 8 }, { name := "Col", type := 3, offset := 2, embedded := false, tag := "", pkgPath := "", byteOffset := 16 }, { name := "N", type := 2, offset := 3, embedded := false, tag := "", pkgPath := "", byteOffset := 24 }, { name := "To", type := 3, offset := 4, embedded := false, tag := "", pkgPath := "", byteOffset := 32 }] := by kernel_rfl
 rw[hfs];simp[Op.eqFields,part,isAgg,run_underlying Tryz.underlying2,run_underlying Tryz.underlying3,run_underlying Tryz.underlying95,run_equalIn_int,eksEq,EK.eq,AV.i]
 repeat' split
 all_goals simp_all
theorem yO4:EqOk (cx S pf) 97 [.i .i64,.i .i64,.i .i64,.i .i64,.i .i64]:=by
 refine⟨by kernel_rfl,fun ρ w la lb xs ys h1 h2 h3 h4 => ?_⟩
 obtain⟨x0,x1,x2,x3,x4,rfl,rfl⟩:=yD7 ρ la xs h1 h3;obtain⟨y0,y1,y2,y3,y4,rfl,rfl⟩:=yD7 ρ lb ys h2 h4;exact yJw w x0 x1 x2 x3 x4 y0 y1 y2 y3 y4
theorem yNr:TyOk (cx S pf) 97:=yM (z:=.agg #[.int .i64 0,.int .i64 0,.int .i64 0,.int .i64 0,.int .i64 0]) (by kernel_rfl) rfl rfl rfl ⟨⟨_,Tryz.underlying97,rfl,fun f hf=>by
 simp only[yD,yA,or_false]at hf;rcases hf with rfl|rfl|rfl|rfl|rfl<;>exact zAt (by kernel_rfl)⟩,fun eks h=>by cases h;exact yO4 S pf⟩
theorem yLp:TyOk (cx S pf) 103:=yM (z:=.agg #[.slice none 0 0,.int .i64 0,.int .i64 0]) (by kernel_rfl) rfl rfl rfl ⟨⟨_,Tryz.underlying103,rfl,fun f hf=>by
 simp only[yD,yA,or_false]at hf;rcases hf with rfl|rfl|rfl<;>exact zAt (by kernel_rfl)⟩,fun eks h=>by cases h⟩
theorem yLo:TyOk (cx S pf) 106:=yM (z:=.agg #[.slice none 0 0,.slice none 0 0,.slice none 0 0]) (by kernel_rfl) rfl rfl rfl ⟨⟨_,Tryz.underlying106,rfl,fun f hf=>by
 simp only[yD,yA,or_false]at hf;rcases hf with rfl|rfl|rfl<;>exact zAt (by kernel_rfl)⟩,fun eks h=>by cases h⟩
theorem yLn:TyOk (cx S pf) 116:=yM (z:=.map none) (by kernel_rfl) rfl rfl rfl ⟨9,Tryz.underlying116,Tryz.underlying9,zYl (by kernel_rfl)⟩
theorem yLm:TyOk (cx S pf) 118:=yM (z:=.agg #[.slice none 0 0,.slice none 0 0,.int .i64 0,.int .i64 0,.slice none 0 0,.int .i64 0,.string ByteArray.empty,.slice none 0 0,.slice none 0 0,.slice none 0 0,.slice none 0 0,.slice none 0 0,.slice none 0 0,.slice none 0 0,.bool false,.bool false,.map none]) (by kernel_rfl) rfl rfl rfl ⟨⟨_,Tryz.underlying118,rfl,fun f hf=>by
 simp only[yD,yA,or_false]at hf;rcases hf with rfl|rfl<;>exact zAt (by kernel_rfl)⟩,fun eks h=>by cases h⟩
theorem yLl:TyOk (cx S pf) 121:=yM (z:=.slice none 0 0) (by kernel_rfl) rfl rfl rfl Tryz.underlying121
theorem yLk:TyOk (cx S pf) 134:=yM (z:=.nilFunc) (by kernel_rfl) rfl rfl rfl ⟨_,_,_,Tryz.underlying134⟩
theorem yLj:TyOk (cx S pf) 135:=yM (z:=.slice none 0 0) (by kernel_rfl) rfl rfl rfl Tryz.underlying135
theorem yLi:TyOk (cx S pf) 142:=yM (z:=.slice none 0 0) (by kernel_rfl) rfl rfl rfl Tryz.underlying142
theorem zYq:∀(ρ:Ren) (la:List AV) (xs:List Value),eksOk [.b,.i .i64] la→VRs ρ la xs→∃(x0:Bool),∃(x1:Int),la=[.v (.bool x0),.v (.int .i64 x1)]∧xs=[.bool x0,.int .i64 x1]:=by
 intro ρ la xs h hv;obtain⟨a0,la0,rfl,h0,g0⟩:=wJ h;obtain⟨x0,rfl⟩:=ekB h0;obtain⟨xs0,rfl,v0⟩:=wI hv;obtain⟨a1,la1,rfl,h1,g1⟩:=wJ g0;obtain⟨x1,rfl⟩:=ekI h1;obtain⟨xs1,rfl,v1⟩:=wI v0;obtain rfl:=zKt g1;obtain rfl:=zJ7 v1;exact⟨x0,x1,rfl,rfl⟩
theorem yG3 (w:World) (x0:Bool) (x1:Int) (y0:Bool) (y1:Int):(Op.equal 148 (.agg [.bool x0,.int .i64 x1].toArray) (.agg [.bool y0,.int .i64 y1].toArray)).run Tryz.prog w=.ok (eksEq [.b,.i .i64] [.v (.bool x0),.v (.int .i64 x1)] [.v (.bool y0),.v (.int .i64 y1)]) w:=by
 have hf:∀t,t∈([148]:List TypeId)→Tryz.prog.stoodInHeld t=false:=fun t ht=>by
  have:([148]:List TypeId).all (fun t=>Tryz.prog.stoodInHeld t==false)=true:=by kernel_rfl
  simpa using zR.1 this t ht
 unfold Op.equal Op.maxDepth;rw[run_equalIn_struct w 9999 148 _ _ (by kernel_rfl) (hf 148 (by simp))]
 have hfs : (Tryz.prog.fieldsOf 148).toList = [{ name := "Known", type := 4, offset := 0, embedded := false, tag := "", pkgPath := "", byteOffset := 0 }, { name := "N", type := 2, offset := 1, embedded := false, tag := "", pkgPath := "", byteOffset := 8 }] := by kernel_rfl
 rw[hfs];simp[Op.eqFields,part,isAgg,run_underlying Tryz.underlying2,run_underlying Tryz.underlying4,run_equalIn_int,run_equalIn_bool,eksEq,EK.eq,AV.i,AV.b]
 repeat' split
 all_goals simp_all
theorem yMn:EqOk (cx S pf) 148 [.b,.i .i64]:=by
 refine⟨by kernel_rfl,fun ρ w la lb xs ys h1 h2 h3 h4 => ?_⟩
 obtain⟨x0,x1,rfl,rfl⟩:=zYq ρ la xs h1 h3;obtain⟨y0,y1,rfl,rfl⟩:=zYq ρ lb ys h2 h4;exact yG3 w x0 x1 y0 y1
theorem yLh:TyOk (cx S pf) 148:=yM (z:=.agg #[.bool false,.int .i64 0]) (by kernel_rfl) rfl rfl rfl ⟨⟨_,Tryz.underlying148,rfl,fun f hf=>by
 simp only[yD,yA,or_false]at hf;rcases hf with rfl|rfl<;>exact zAt (by kernel_rfl)⟩,fun eks h=>by cases h;exact yMn S pf⟩
theorem yLg:TyOk (cx S pf) 153:=yM (z:=.map none) (by kernel_rfl) rfl rfl rfl ⟨9,3,Tryz.underlying153,Tryz.underlying9,Tryz.underlying3,zYl (by kernel_rfl)⟩
theorem yLf:TyOk (cx S pf) 155:=yM (z:=.map none) (by kernel_rfl) rfl rfl rfl ⟨3,3,Tryz.underlying155,Tryz.underlying3,Tryz.underlying3,zYl (by kernel_rfl)⟩
theorem yLe:TyOk (cx S pf) 158:=yM (z:=.nilFunc) (by kernel_rfl) rfl rfl rfl ⟨_,_,_,Tryz.underlying158⟩
theorem yLd:TyOk (cx S pf) 162:=yM (z:=.nilFunc) (by kernel_rfl) rfl rfl rfl ⟨_,_,_,Tryz.underlying162⟩
theorem yLc:TyOk (cx S pf) 171:=yM (z:=.agg #[.bool false,.int .i64 0]) (by kernel_rfl) rfl rfl rfl ⟨⟨_,Tryz.underlying171,rfl,fun f hf=>by
 simp only[yD,yA,or_false]at hf;rcases hf with rfl|rfl<;>exact zAt (by kernel_rfl)⟩,fun eks h=>by cases h⟩
theorem yLb:TyOk (cx S pf) 182:=yM (z:=.agg #[.slice none 0 0,.slice none 0 0,.slice none 0 0,.map none]) (by kernel_rfl) rfl rfl rfl ⟨⟨_,Tryz.underlying182,rfl,fun f hf=>by
 simp only[yD,yA,or_false]at hf;rcases hf with rfl|rfl|rfl<;>exact zAt (by kernel_rfl)⟩,fun eks h=>by cases h⟩
theorem yLa:TyOk (cx S pf) 183:=yM (z:=.slice none 0 0) (by kernel_rfl) rfl rfl rfl Tryz.underlying183
theorem yK9:TyOk (cx S pf) 186:=yM (z:=.slice none 0 0) (by kernel_rfl) rfl rfl rfl Tryz.underlying186
theorem yK8:TyOk (cx S pf) 189:=yM (z:=.agg #[.int .i64 0,.int .i64 0,.int .i64 0,.int .i64 0,.int .i64 0,.int .i64 0]) (by kernel_rfl) rfl rfl rfl ⟨⟨_,Tryz.underlying189,rfl,fun f hf=>by
 simp only[yD,yA,or_false]at hf;rcases hf with rfl|rfl|rfl<;>exact zAt (by kernel_rfl)⟩,fun eks h=>by cases h⟩
theorem yK7:TyOk (cx S pf) 192:=yM (z:=.agg #[.slice none 0 0,.slice none 0 0,.slice none 0 0,.slice none 0 0,.int .i64 0,.bool false,.int .i64 0,.bool false]) (by kernel_rfl) rfl rfl rfl ⟨⟨_,Tryz.underlying192,rfl,fun f hf=>by
 simp only[yD,yA,or_false]at hf;rcases hf with rfl|rfl|rfl|rfl|rfl|rfl<;>exact zAt (by kernel_rfl)⟩,fun eks h=>by cases h⟩
theorem yK6:TyOk (cx S pf) 202:=yM (z:=.slice none 0 0) (by kernel_rfl) rfl rfl rfl Tryz.underlying202
theorem yK5:TyOk (cx S pf) 203:=yM (z:=.agg #[.int .i64 0,.int .i64 0,.int .i64 0,.int .i64 0,.int .i64 0,.int .i64 0,.int .i64 0,.int .i64 0,.int .i64 0,.int .i64 0,.int .i64 0,.int .i64 0,.int .i64 0,.int .i64 0,.int .i64 0,.int .i64 0,.int .i64 0,.int .i64 0,.int .i64 0,.int .i64 0,.int .i64 0,.int .i64 0,.int .i64 0,.int .i64 0,.int .i64 0,.int .i64 0,.int .i64 0]) (by kernel_rfl) rfl rfl rfl ⟨Tryz.underlying203,zAt (by kernel_rfl)⟩
theorem yK4:TyOk (cx S pf) 210:=yM (z:=.agg #[.slice none 0 0,.slice none 0 0,.slice none 0 0,.slice none 0 0,.int .i64 0,.int .i64 0]) (by kernel_rfl) rfl rfl rfl ⟨⟨_,Tryz.underlying210,rfl,fun f hf=>by
 simp only[yD,yA,or_false]at hf;rcases hf with rfl|rfl|rfl|rfl<;>exact zAt (by kernel_rfl)⟩,fun eks h=>by cases h⟩
theorem yK3:TyOk (cx S pf) 226:=yM (z:=.agg #[.int .i64 0,.int .i64 0,.int .i64 0,.int .i64 0,.int .i64 0]) (by kernel_rfl) rfl rfl rfl ⟨Tryz.underlying226,zAt (by kernel_rfl)⟩
theorem yK2:TyOk (cx S pf) 235:=yM (z:=.agg #[.bool false,.int .i64 0,.bool false,.int .i64 0,.bool false,.int .i64 0]) (by kernel_rfl) rfl rfl rfl ⟨Tryz.underlying235,zAt (by kernel_rfl)⟩
theorem yK1:TyOk (cx S pf) 241:=yM (z:=.agg #[.string ByteArray.empty,.string ByteArray.empty,.string ByteArray.empty,.string ByteArray.empty,.string ByteArray.empty,.string ByteArray.empty,.string ByteArray.empty,.string ByteArray.empty,.string ByteArray.empty,.string ByteArray.empty,.string ByteArray.empty,.string ByteArray.empty,.string ByteArray.empty,.string ByteArray.empty,.string ByteArray.empty,.string ByteArray.empty,.string ByteArray.empty,.string ByteArray.empty,.string ByteArray.empty,.string ByteArray.empty,.string ByteArray.empty,.string ByteArray.empty,.string ByteArray.empty,.string ByteArray.empty,.string ByteArray.empty,.string ByteArray.empty,.string ByteArray.empty]) (by kernel_rfl) rfl rfl rfl ⟨Tryz.underlying241,zAt (by kernel_rfl)⟩
theorem yK0:TyOk (cx S pf) 249:=yM (z:=.slice none 0 0) (by kernel_rfl) rfl rfl rfl Tryz.underlying249
theorem yKz:TyOk (cx S pf) 254:=yM (z:=.agg #[.bool false,.int .i64 0,.bool false,.int .i64 0,.bool false,.int .i64 0,.bool false,.int .i64 0,.bool false,.int .i64 0,.bool false,.int .i64 0,.bool false,.int .i64 0,.bool false,.int .i64 0,.bool false,.int .i64 0]) (by kernel_rfl) rfl rfl rfl ⟨Tryz.underlying254,zAt (by kernel_rfl)⟩
theorem yKy:TyOk (cx S pf) 256:=yM (z:=.agg #[.int .i64 0,.int .i64 0]) (by kernel_rfl) rfl rfl rfl ⟨Tryz.underlying256,zAt (by kernel_rfl)⟩
theorem yKx:TyOk (cx S pf) 265:=yM (z:=.agg #[.int .i64 0,.int .i64 0]) (by kernel_rfl) rfl rfl rfl ⟨⟨_,Tryz.underlying265,rfl,fun f hf=>by
 simp only[yD,yA,or_false]at hf;rcases hf with rfl|rfl<;>exact zAt (by kernel_rfl)⟩,fun eks h=>by cases h⟩
theorem yAf (t:TypeId):t=2∨t=3∨t=4∨t=5∨t=9∨t=21∨t=22∨t=24∨t=25∨t=26∨t=27∨t=28∨t=29∨t=31∨t=35∨t=36∨t=37∨t=38∨t=39∨t=41∨t=42∨t=43∨t=45∨t=52∨t=53∨t=57∨t=58∨t=60∨t=61∨t=69∨t=71∨t=73∨t=74∨t=76∨t=79∨t=81∨t=85∨t=88∨t=89∨t=91∨t=93∨t=95∨t=97∨t=103∨t=106∨t=116∨t=118∨t=121∨t=134∨t=135∨t=142∨t=148∨t=153∨t=155∨t=158∨t=162∨t=171∨t=182∨t=183∨t=186∨t=189∨t=192∨t=202∨t=203∨t=210∨t=226∨t=235∨t=241∨t=249∨t=254∨t=256∨t=265∨(ti t).d=.other:=by
 unfold ti;split<;>simp
theorem yM7:∀t,((cx S pf).ti t).d≠.other→TyOk (cx S pf) t:=fun t h=>by
 rcases yAf t with rfl|rfl|rfl|rfl|rfl|rfl|rfl|rfl|rfl|rfl|rfl|rfl|rfl|rfl|rfl|rfl|rfl|rfl|rfl|rfl|rfl|rfl|rfl|rfl|rfl|rfl|rfl|rfl|rfl|rfl|rfl|rfl|rfl|rfl|rfl|rfl|rfl|rfl|rfl|rfl|rfl|rfl|rfl|rfl|rfl|rfl|rfl|rfl|rfl|rfl|rfl|rfl|rfl|rfl|rfl|rfl|rfl|rfl|rfl|rfl|rfl|rfl|rfl|rfl|rfl|rfl|rfl|rfl|rfl|rfl|rfl|rfl|e
 ·exact ty2 S pf
 ·exact ty3 S pf
 ·exact ty4 S pf
 ·exact ty5 S pf
 ·exact ty9 S pf
 ·exact yOs S pf
 ·exact yOr S pf
 ·exact yOq S pf
 ·exact yOp S pf
 ·exact yOo S pf
 ·exact yOn S pf
 ·exact yOm S pf
 ·exact yOl S pf
 ·exact yOk S pf
 ·exact yOj S pf
 ·exact yOi S pf
 ·exact yOh S pf
 ·exact yOg S pf
 ·exact yOf S pf
 ·exact yOe S pf
 ·exact yOd S pf
 ·exact yOc S pf
 ·exact yOb S pf
 ·exact yOa S pf
 ·exact yN9 S pf
 ·exact yN8 S pf
 ·exact yN7 S pf
 ·exact yN6 S pf
 ·exact yN5 S pf
 ·exact yN4 S pf
 ·exact yN3 S pf
 ·exact yN2 S pf
 ·exact yN1 S pf
 ·exact yN0 S pf
 ·exact yNz S pf
 ·exact yNy S pf
 ·exact yNx S pf
 ·exact yNw S pf
 ·exact yNv S pf
 ·exact yNu S pf
 ·exact yNt S pf
 ·exact yNs S pf
 ·exact yNr S pf
 ·exact yLp S pf
 ·exact yLo S pf
 ·exact yLn S pf
 ·exact yLm S pf
 ·exact yLl S pf
 ·exact yLk S pf
 ·exact yLj S pf
 ·exact yLi S pf
 ·exact yLh S pf
 ·exact yLg S pf
 ·exact yLf S pf
 ·exact yLe S pf
 ·exact yLd S pf
 ·exact yLc S pf
 ·exact yLb S pf
 ·exact yLa S pf
 ·exact yK9 S pf
 ·exact yK8 S pf
 ·exact yK7 S pf
 ·exact yK6 S pf
 ·exact yK5 S pf
 ·exact yK4 S pf
 ·exact yK3 S pf
 ·exact yK2 S pf
 ·exact yK1 S pf
 ·exact yK0 S pf
 ·exact yKz S pf
 ·exact yKy S pf
 ·exact yKx S pf
 ·exact absurd e h
theorem yL8 (h:∀f g,pf f=some g→zGp (cx S pf) f g):Ok (cx S pf):=⟨yM7 S pf,h⟩
theorem zB3:(cx S pf).P.follows .mixedOrders=true:=by kernel_rfl
end
theorem zC4 {S S':List Nat} {pf pf':FuncId→Option (List AV→Heap→PRes)} (hs:∀x∈S,x∈S') {f:FuncId} {g:List AV→Heap→PRes} (h:zGp (cx S pf) f g):zGp (cx S' pf') f g :=
 ⟨h.1,h.2.imp (fun h=>⟨h.1,fun ρ hh w args vs r=>h.2 ρ hh w args vs ⟨fun g cs hg=>r.glob g cs (by
  simp only[zZx,globS]at hg ⊢;by_cases hm:g∈S
  ·rw[if_pos hm]at hg;rw[if_pos (hs g hm)];exact hg
  ·rw[if_neg hm]at hg;cases hg),r.blk⟩⟩) fun h=>h⟩
def pfL:List (FuncId×(List AV→Heap→PRes))→FuncId→Option (List AV→Heap→PRes)
 | [],_=>none
 | p::l,f=>if f=p.1 then some p.2 else pfL l f
def P0 (S:List Nat) (f:FuncId) (g:List AV→Heap→PRes):Prop:=zGp (cx S (pfL [])) f g
def zQh (S:List Nat) (l:List (FuncId×(List AV→Heap→PRes))):Prop:=∀p∈l,P0 S p.1 p.2
theorem yJ {S:List Nat}:zQh S []:=fun _ h=>by cases h
theorem zS {S0 S:List Nat} {f:FuncId} {g:List AV→Heap→PRes} {l:List (FuncId×(List AV→Heap→PRes))} (h:P0 S0 f g) (hl:zQh S l) (hs:∀x∈S0,x∈S:=by decide):zQh S ((f,g)::l):=fun p hp=>by
 cases hp with
 | head=>exact zC4 hs h
 | tail _ hp=>exact hl p hp
theorem zAr {S:List Nat} {l:List (FuncId×(List AV→Heap→PRes))} (h:zQh S l):Ok (cx S (pfL l)) :=
 yL8 S _ fun f g hf=>by
  have:∀l':List (FuncId×(List AV→Heap→PRes)),pfL l' f=some g→(f,g)∈l':=fun l'=>by
   induction l' with
   | nil=>intro h;cases h
   | cons p l' ih =>
    intro h;simp only[pfL]at h;split at h
    ·rename_i e
     cases h;rw[e];exact List.mem_cons_self
    ·exact List.mem_cons_of_mem _ (ih h)
  exact zC4 (fun _ hx=>hx) (h (f,g) (this l hf))
theorem xK {f : FuncId} {fn : Func} (hf : Tryz.prog.funcs[f]? = some fn) (hn : (fn.name == "runtime.NumGoroutine") = false) (hb : fn.body.isNone = false) (S : List Nat) (pf : FuncId → Option (List AV → Heap → PRes)) : ∀ args w, (callFunc f args).run (cx S pf).P w = .ok (.enter f args) w := fun args w => by
 simp only[callFunc,Sem.run_bind,run_program,Result.andThen_ok,yNe,hf,hn,hb,yO,if_false,Sem.run_pure]
theorem ev0:type_of% (And.intro @evs (And.intro @tis (And.intro (And.intro (And.intro (And.intro (And.intro @aeval.eq_1 (And.intro @aeval.eq_2 @aeval.eq_3)) (And.intro @aeval.eq_4 (And.intro @aeval.eq_5 @aeval.eq_6))) (And.intro (And.intro @aeval.eq_7 (And.intro @aeval.eq_8 @aeval.eq_9)) (And.intro @aeval.eq_10 (And.intro @aeval.eq_11 @aeval.eq_12)))) (And.intro (And.intro (And.intro @aeval.eq_13 (And.intro @aeval.eq_14 @aeval.eq_15)) (And.intro @aeval.eq_16 (And.intro @aeval.eq_17 @aeval.eq_18))) (And.intro (And.intro @aeval.eq_19 (And.intro @aeval.eq_20 @aeval.eq_21)) (And.intro (And.intro @aeval.eq_22 @aeval.eq_23) (And.intro @aeval.eq_24 @aeval.eq_25))))) (And.intro (And.intro (And.intro (And.intro @aeval.eq_26 (And.intro @aeval.eq_27 @aeval.eq_28)) (And.intro @aeval.eq_29 (And.intro @aeval.eq_30 @aeval.eq_31))) (And.intro (And.intro @aeval.eq_32 (And.intro @aeval.eq_33 @aeval.eq_34)) (And.intro (And.intro @aeval.eq_35 @binS.eq_1) (And.intro @binS.eq_2 @binS.eq_3)))) (And.intro (And.intro (And.intro @binS.eq_4 (And.intro @globS.eq_1 @glob.eq_1)) (And.intro @glob.eq_2 (And.intro @glob.eq_3 @glob.eq_4))) (And.intro (And.intro @glob.eq_5 (And.intro @glob.eq_6 @glob.eq_7)) (And.intro (And.intro @glob.eq_8 @glob.eq_9) (And.intro @pfL.eq_1 @pfL.eq_2)))))))):=And.intro @evs (And.intro @tis (And.intro (And.intro (And.intro (And.intro (And.intro @aeval.eq_1 (And.intro @aeval.eq_2 @aeval.eq_3)) (And.intro @aeval.eq_4 (And.intro @aeval.eq_5 @aeval.eq_6))) (And.intro (And.intro @aeval.eq_7 (And.intro @aeval.eq_8 @aeval.eq_9)) (And.intro @aeval.eq_10 (And.intro @aeval.eq_11 @aeval.eq_12)))) (And.intro (And.intro (And.intro @aeval.eq_13 (And.intro @aeval.eq_14 @aeval.eq_15)) (And.intro @aeval.eq_16 (And.intro @aeval.eq_17 @aeval.eq_18))) (And.intro (And.intro @aeval.eq_19 (And.intro @aeval.eq_20 @aeval.eq_21)) (And.intro (And.intro @aeval.eq_22 @aeval.eq_23) (And.intro @aeval.eq_24 @aeval.eq_25))))) (And.intro (And.intro (And.intro (And.intro @aeval.eq_26 (And.intro @aeval.eq_27 @aeval.eq_28)) (And.intro @aeval.eq_29 (And.intro @aeval.eq_30 @aeval.eq_31))) (And.intro (And.intro @aeval.eq_32 (And.intro @aeval.eq_33 @aeval.eq_34)) (And.intro (And.intro @aeval.eq_35 @binS.eq_1) (And.intro @binS.eq_2 @binS.eq_3)))) (And.intro (And.intro (And.intro @binS.eq_4 (And.intro @globS.eq_1 @glob.eq_1)) (And.intro @glob.eq_2 (And.intro @glob.eq_3 @glob.eq_4))) (And.intro (And.intro @glob.eq_5 (And.intro @glob.eq_6 @glob.eq_7)) (And.intro (And.intro @glob.eq_8 @glob.eq_9) (And.intro @pfL.eq_1 @pfL.eq_2)))))))
theorem evv:type_of% (And.intro @ev0 (And.intro (And.intro (And.intro @zVh (And.intro @zZx @zVi)) (And.intro @zVg (And.intro @ldcs.eq_1 @ldcs.eq_2))) (And.intro (And.intro @sls.eq_1 (And.intro @sls.eq_2 @sls.eq_3)) (And.intro @sls.eq_4 (And.intro @slc.eq_1 @slc.eq_2))))):=And.intro @ev0 (And.intro (And.intro (And.intro @zVh (And.intro @zZx @zVi)) (And.intro @zVg (And.intro @ldcs.eq_1 @ldcs.eq_2))) (And.intro (And.intro @sls.eq_1 (And.intro @sls.eq_2 @sls.eq_3)) (And.intro @sls.eq_4 (And.intro @slc.eq_1 @slc.eq_2))))
theorem evw:type_of% (And.intro @ev0 (And.intro (And.intro (And.intro (And.intro @zVh @zZx) (And.intro @zVi @zVg)) (And.intro (And.intro @zL9 @zL8) (And.intro @zL7 @zI1))) (And.intro (And.intro (And.intro @zL6 @zL5) (And.intro @sls.eq_1 @sls.eq_2)) (And.intro (And.intro @sls.eq_3 @sls.eq_4) (And.intro @slc.eq_1 @slc.eq_2))))):=And.intro @ev0 (And.intro (And.intro (And.intro (And.intro @zVh @zZx) (And.intro @zVi @zVg)) (And.intro (And.intro @zL9 @zL8) (And.intro @zL7 @zI1))) (And.intro (And.intro (And.intro @zL6 @zL5) (And.intro @sls.eq_1 @sls.eq_2)) (And.intro (And.intro @sls.eq_3 @sls.eq_4) (And.intro @slc.eq_1 @slc.eq_2))))
theorem evx:type_of% (And.intro @ev0 (And.intro (And.intro (And.intro @zVh (And.intro @zZx @zVi)) (And.intro @zVg (And.intro @zL9 @zL8))) (And.intro (And.intro @zL7 (And.intro @zI1 @zL6)) (And.intro @zL5 (And.intro @sls.eq_1 @slc.eq_1))))):=And.intro @ev0 (And.intro (And.intro (And.intro @zVh (And.intro @zZx @zVi)) (And.intro @zVg (And.intro @zL9 @zL8))) (And.intro (And.intro @zL7 (And.intro @zI1 @zL6)) (And.intro @zL5 (And.intro @sls.eq_1 @slc.eq_1))))
end
end Go.Proofs.YtbffkkeieihpdaaGreatDoor
