import Derived.Test.YtmkgadogaefkaaaMC
set_option linter.all false
section
section
/-! Plain models: how many operations lead from a node to another one. -/
namespace Go.Rs
end Go.Rs
end
section
/-! Plain laws: no operation leads from a node to an equal one; differences of maps are at least those of their names. -/
namespace Go.Rs
end Go.Rs
end
section
/-! Plain models: shapes. -/
namespace Go.Rs
end Go.Rs
end
section
/-! Plain models: maps as rows of documents; a name put in, a name taken out. -/
namespace Go.Rs
end Go.Rs
end
section
/-! Plain models: a node merged with a patch. -/
namespace Go.Rs
end Go.Rs
end
end
section
section
section
/-! Plain models: maps as nodes; a name put in or taken out by the reference's steps; merged nodes' rows. -/
namespace Go.Rs
end Go.Rs
end
section
/-! Plain laws: merged nodes' names. -/
namespace Go.Rs
end Go.Rs
end
section
/-! Plain models: the patch that leads from a node to a plain one. -/
namespace Go.Rs
end Go.Rs
end
section
/-! Plain laws: patches lead from node to node. -/
namespace Go.Rs
end Go.Rs
end
section
/-! Plain models: the reference's steps towards the patch. -/
namespace Go.Rs
end Go.Rs
end
end
section
section
/-! Plain models: what a function makes of the node at a pointer. -/
namespace Go.Rs
end Go.Rs
end
section
/-! Plain laws: nodes with another node at a pointer, nodes without one. -/
namespace Go.Rs
-- lists
-- valid nodes
-- the laws
end Go.Rs
end
section
/-! Plain models: the texts of nodes. -/
namespace Go.Rs
-- lengths
end Go.Rs
end
section
/-! Plain laws: a node's text tells the node; sizes of stores. -/
namespace Go.Rs
-- sizes
end Go.Rs
end
section
/-! Plain models: stores trimmed. -/
namespace Go.Rs
end Go.Rs
end
end
end
